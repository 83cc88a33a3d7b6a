import Derived.Test.YtpjenobkibfpcaaCmX
import Derived.Test.YtpjenobkibfpcaaKD20
set_option linter.unusedSimpArgs false
set_option linter.unusedVariables false
namespace Go.AM
open Go.ChangeShapes Go.WideShapes Go.RowKit

section
variable {P : Program} {cfg : Cfg U} {w : World} {H : Type} {henc : TypeId × Value → H}

structure EditTypes (cfg : Cfg U) : Prop where
  wvar : ∃ zs, cfg.var (cfg.elT .wedit) = some (true, zs) ∧ zs.length = 4
  w0 : ∃ t n, cfg.fld (cfg.elT .wedit) 0 = some (0, t) ∧ cfg.var t = some (false, [.int .i64 n])
  w1 : ∃ t n, cfg.fld (cfg.elT .wedit) 1 = some (1, t) ∧ cfg.var t = some (false, [.int .u8 n])
  w2 : ∃ t n, cfg.fld (cfg.elT .wedit) 2 = some (2, t) ∧ cfg.var t = some (false, [.int .u64 n])
  w3 : ∃ t n, cfg.fld (cfg.elT .wedit) 3 = some (3, t) ∧ cfg.var t = some (false, [.int .u64 n])
  kvar : ∃ zs, cfg.var (cfg.elT .kid) = some (true, zs) ∧ zs.length = 12
  k0 : ∃ t n, cfg.fld (cfg.elT .kid) 0 = some (0, t) ∧ cfg.var t = some (false, [.int .i64 n])
  k1 : cfg.fld (cfg.elT .kid) 1 = some (1, cfg.elT .edit)
  ovar : ∃ zs, cfg.var (cfg.elT .op) = some (true, zs) ∧ zs.length = 14
  o0 : ∃ t n, cfg.fld (cfg.elT .op) 0 = some (0, t) ∧ cfg.var t = some (false, [.int .i64 n])
  o1 : ∃ t n, cfg.fld (cfg.elT .op) 1 = some (1, t) ∧ cfg.var t = some (false, [.int .i64 n])
  o2 : ∃ t c, cfg.fld (cfg.elT .op) 2 = some (2, t) ∧ cfg.var t = some (false, [c]) ∧ cfg.slT t = some .tree
  o3 : cfg.fld (cfg.elT .op) 3 = some (3, cfg.elT .edit)
  evar : ∃ zs, cfg.var (cfg.elT .edit) = some (true, zs) ∧ zs.length = 11
  e0 : ∃ t n, cfg.fld (cfg.elT .edit) 0 = some (0, t) ∧ cfg.var t = some (false, [.int .i64 n])
  e1 : cfg.fld (cfg.elT .edit) 1 = some (1, cfg.elT .tree)
  e2 : cfg.fld (cfg.elT .edit) 2 = some (4, cfg.elT .tree)
  e3 : ∃ t c, cfg.fld (cfg.elT .edit) 3 = some (7, t) ∧ cfg.var t = some (false, [c]) ∧ cfg.slT t = some .wedit
  e4 : ∃ t c, cfg.fld (cfg.elT .edit) 4 = some (8, t) ∧ cfg.var t = some (false, [c]) ∧ cfg.slT t = some .kid
  e5 : ∃ t n, cfg.fld (cfg.elT .edit) 5 = some (9, t) ∧ cfg.var t = some (false, [.int .i64 n])
  e6 : ∃ t c, cfg.fld (cfg.elT .edit) 6 = some (10, t) ∧ cfg.var t = some (false, [c]) ∧ cfg.slT t = some .op

theorem rd_wedit (ok : CfgOk P cfg) (T : TreeTypes cfg) (E : EditTypes cfg) (n : Nat) (cs : List Value) (h : Rdd henc P w n (cfg.elT .wedit) cs) : ∃ e : WEdit, RelS cfg w.cell? cs (cfg.enc .wedit e) ∧ rngW e := by
  obtain ⟨zs, hz, hzl⟩ := E.wvar
  obtain ⟨t0, n0, f0, v0⟩ := E.w0
  obtain ⟨t1, n1, f1, v1⟩ := E.w1
  obtain ⟨t2, n2, f2, v2⟩ := E.w2
  obtain ⟨t3, n3, f3, v3⟩ := E.w3
  obtain ⟨m, rfl, hl, r0⟩ := rd_fld ok f0 v0 h
  obtain ⟨m', e', _, r1⟩ := rd_fld ok f1 v1 h
  cases e'
  obtain ⟨m', e', _, r2⟩ := rd_fld ok f2 v2 h
  cases e'
  obtain ⟨m', e', _, r3⟩ := rd_fld ok f3 v3 h
  cases e'
  have hl4 : cs.length = 4 := by rw [hl, cellsOf_var ok hz, hzl]
  obtain ⟨a, a1, a2, a3⟩ := rd_int ok v0 r0
  obtain ⟨b, b1, b2, b3⟩ := rd_int ok v1 r1
  obtain ⟨c, c1, c2, c3⟩ := rd_int ok v2 r2
  obtain ⟨d, d1, d2, d3⟩ := rd_int ok v3 r3
  have g := a1.glue rfl (by simp; omega) (b1.glue rfl (by simp; omega) (c1.glue rfl (by simp; omega) (d1.glue rfl (by simp; omega) (RelS.done (n := 4) hl4))))
  refine ⟨⟨a, b, c, d⟩, by rw [T.enc]; exact g, ⟨a2, a3⟩, ⟨b2, ?_⟩, ⟨c2, ?_⟩, d2, ?_⟩
  · have : b ≤ 255 := b3
    show b < 256; omega
  · have : c ≤ 18446744073709551615 := c3
    show c < 18446744073709551616; omega
  · have : d ≤ 18446744073709551615 := d3
    show d < 18446744073709551616; omega

end
end Go.AM
