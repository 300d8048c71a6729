/- The writer's methods: num, byte, count; Out.String. -/
import Derived.Test.YtchmhkdnegngdaaGreatWn
set_option linter.unusedVariables false
set_option linter.unusedSimpArgs false
namespace Go.Proofs.YtchmhkdnegngdaaGreat
open Go.RowKit


theorem held_calls (x : Nat) (most : Int) (w : World) (h : (x : Int) ≤ most) (hx : x < 9223372036854775808) :
    Calls Tryz.prog 172 #[i64 x, i64 most] w (fun e w' => e = .returned (u64 x) ∧ w = w') := by
  go_enter Tryz.func172, Tryz.ntmps172
  go_wp2
  go_ret
  refine ⟨?_, rfl⟩
  go_num

set_option maxRecDepth 100000 in
theorem wnum_calls (ob : Nat) (t : TypeId) (v : Value) (bs : List UInt8) (x : Nat) (pb pj : Nat) (w : World) (h : WIs w ob t v bs) (hx : x ≤ 2147483647) (hl : bs.length ≤ 100000)
    (hc : w.cell? ⟨pb, pj, none⟩ = some (i64 x)) (hne : pb ≠ ob) (hnv : v.ownBlock ≠ some pb) :
    Calls Tryz.prog 167 #[.pointer (some ⟨ob, 0, none⟩), .pointer (some ⟨pb, pj, none⟩)] w (Wrote ob t v w (bs ++ vb x)) := by
  have HH := Lib.hid h
  obtain ⟨c0, f0⟩ := h.blk.read
  have hlt := h.blk.lt
  clear h
  go_enter Tryz.func167, Tryz.ntmps167
  go_wp2_with fail
  go_region_held3 (fun w' => w'.cell? ⟨pb, pj, none⟩ = some (i64 x)) (first | assumption | go_keep | (simp [*, go_sem]; done)) (first | (with_reducible refine (held_calls x _ _ (by omega) (by omega)).mono ?_; rintro e w' ⟨rfl, rfl⟩) | (with_reducible refine (num_calls ob t v bs x _ HH.out.drew (by omega) hl).mono ?_; intro e w' h0; unfold Wrote at h0; obtain ⟨rfl, v', hW, hS⟩ := h0; have hcc := hS.undrew.cell hc hne hnv))
  refine bodyPost_ret (results_none rfl _ _ _) rfl ?_
  exact ⟨rfl, v', hW, hS.undrew⟩
end Go.Proofs.YtchmhkdnegngdaaGreat
