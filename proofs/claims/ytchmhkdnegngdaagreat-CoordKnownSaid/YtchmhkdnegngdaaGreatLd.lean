/- meterref17.Same at two tables alike. -/
import Derived.Test.YtchmhkdnegngdaaGreatLc
set_option linter.unusedVariables false
set_option linter.unusedSimpArgs false
namespace Go.Proofs.YtchmhkdnegngdaaGreat
open Go.RowKit


set_option maxRecDepth 100000 in
theorem rsame_calls (ep n : Int) (xs : List Int) (b1 o1 k1 b2 o2 k2 : Nat) (w : World) (h1 : IA w b1 o1 xs) (h2 : IA w b2 o2 xs) (hl : xs.length ≤ 4096) :
    Calls Tryz.prog 17 #[.agg #[i64 ep, i64 n, .slice (some ⟨b1, o1, none⟩) xs.length k1], .agg #[i64 ep, i64 n, .slice (some ⟨b2, o2, none⟩) xs.length k2]] w
      (fun e w' => e = .returned (.bool true) ∧ Ext w w') := by
  have e1 : Ext w ((w.alloc (.cells #[i64 ep, i64 n, .slice (some ⟨b1, o1, none⟩) xs.length k1] 28)).alloc (.cells #[i64 ep, i64 n, .slice (some ⟨b2, o2, none⟩) xs.length k2] 28)) := by (refine Mod.to_ext (S := []) ?_ (by simp); repeat (first | (with_reducible exact Mod.refl _ _) | (with_reducible assumption) | (with_reducible refine Mod.alloc ?_ _) | (with_reducible refine Mod.drew ?_) | (with_reducible refine Mod.drewN ?_ _)))
  have B1 := Lib.hid ((Blk.new w [i64 ep, i64 n, .slice (some ⟨b1, o1, none⟩) xs.length k1] 28).old (.cells #[i64 ep, i64 n, .slice (some ⟨b2, o2, none⟩) xs.length k2] 28))
  have B2 := Lib.hid (Blk.at (w.alloc (.cells #[i64 ep, i64 n, .slice (some ⟨b1, o1, none⟩) xs.length k1] 28)) [i64 ep, i64 n, .slice (some ⟨b2, o2, none⟩) xs.length k2] 28 (w.heap.size + 1) (by simp))
  have H1 := Lib.hid (h1.ext e1)
  have H2 := Lib.hid (h2.ext e1)
  have HE1 := Lib.hid e1
  clear e1 h1 h2
  go_enter Tryz.func17, Tryz.ntmps17
  go_wp2_with fail
  revert B1 B2 H1 H2 HE1
  generalize hN : w.heap.size = N
  generalize hW : World.alloc (w.alloc _) _ = W
  clear hW
  intro B1 B2 H1 H2 HE1
  go_loopw [5] (fun i wr => ∃ k : Nat, k ≤ xs.length ∧ i = i64 k ∧ Ext W wr) (fun i _ => xs.length - (intOf i).toNat)
  case atStart => exact ⟨0, by omega, rfl, Below.refl _ _⟩
  case round =>
    obtain ⟨k, hk, rfl, hE⟩ := hrel
    obtain ⟨y1, z1⟩ := (B1.out.ext hE).read
    obtain ⟨y2, z2⟩ := (B2.out.ext hE).read
    have HE := Lib.hid hE
    by_cases hlt : k < xs.length
    · have c1 := (H1.out.ext hE).at0 hlt
      have c2 := (H2.out.ext hE).at0 hlt
      clear hE
      go_wp2_with fail
      go_quiet (fail)
      go_wp2_with fail
      go_roundw
      case rel => exact ⟨k + 1, by omega, by go_num, HE.out.trans (by (refine Mod.to_ext (S := []) ?_ (by simp); repeat (first | (with_reducible exact Mod.refl _ _) | (with_reducible assumption) | (with_reducible refine Mod.alloc ?_ _) | (with_reducible refine Mod.drew ?_) | (with_reducible refine Mod.drewN ?_ _))))⟩
      case measure => simp [intOf]; omega
    · clear hE
      go_wp2_with fail
      go_ret
      exact ⟨rfl, HE1.out.trans HE.out⟩
end Go.Proofs.YtchmhkdnegngdaaGreat
