/- Package table, further: Same, Owner, May. -/
import Derived.Test.YtchmhkdnegngdaaGreatTb
set_option linter.unusedVariables false
set_option linter.unusedSimpArgs false
namespace Go.Proofs.YtchmhkdnegngdaaGreat
open Go.RowKit

/-- Same of two tables -/
def sameB (e1 n1 : Int) (xs : List Int) (e2 n2 : Int) (ys : List Int) : Bool := decide (e1 = e2) && decide (n1 = n2) && eqB xs ys

theorem tsame_calls (e1 n1 e2 n2 : Int) (b off cap b2 off2 cap2 : Nat) (xs ys : List Int) (w : World) (hl : xs.length ≤ 4096) (hl2 : ys.length ≤ 4096) (hx : IA w b off xs) (hy : IA w b2 off2 ys) :
    Calls Tryz.prog 33 #[.agg #[i64 e1, i64 n1, .slice (some ⟨b, off, none⟩) xs.length cap], .agg #[i64 e2, i64 n2, .slice (some ⟨b2, off2, none⟩) ys.length cap2]] w
      fun e w' => e = .returned (.bool (sameB e1 n1 xs e2 n2 ys)) ∧ Ext w w' := by
  by_cases h1 : e1 = e2
  case neg =>
    have hv : sameB e1 n1 xs e2 n2 ys = false := by simp only [sameB, decide_eq_false h1, Bool.false_and]
    have H := Lib.hid hv; clear hv
    have h1' : (e1 == e2) = false := by simpa using h1
    go_enter Tryz.func33, Tryz.ntmps33
    go_wp2; go_ret; exact ⟨by rw [H.out]; rfl, by (refine Mod.to_ext (S := []) ?_ (by simp); repeat (first | (with_reducible exact Mod.refl _ _) | (with_reducible assumption) | (with_reducible refine Mod.alloc ?_ _) | (with_reducible refine Mod.drew ?_) | (with_reducible refine Mod.drewN ?_ _)))⟩
  by_cases h2 : n1 = n2
  case neg =>
    have hv : sameB e1 n1 xs e2 n2 ys = false := by simp only [sameB, decide_eq_false h2, Bool.false_and, Bool.and_false]
    have H := Lib.hid hv; clear hv
    have h1' : (n1 == n2) = false := by simpa using h2
    go_enter Tryz.func33, Tryz.ntmps33
    go_wp2; go_ret; exact ⟨by rw [H.out]; rfl, by (refine Mod.to_ext (S := []) ?_ (by simp); repeat (first | (with_reducible exact Mod.refl _ _) | (with_reducible assumption) | (with_reducible refine Mod.alloc ?_ _) | (with_reducible refine Mod.drew ?_) | (with_reducible refine Mod.drewN ?_ _)))⟩
  subst h1 h2
  have hv : sameB e1 n1 xs e1 n1 ys = eqB xs ys := by simp [sameB]
  have H := Lib.hid hv; clear hv
  have E1 : Ext w ((w.alloc (.cells #[i64 e1, i64 n1, .slice (some ⟨b, off, none⟩) xs.length cap] 28)).alloc (.cells #[i64 e1, i64 n1, .slice (some ⟨b2, off2, none⟩) ys.length cap2] 28)) := by (refine Mod.to_ext (S := []) ?_ (by simp); repeat (first | (with_reducible exact Mod.refl _ _) | (with_reducible assumption) | (with_reducible refine Mod.alloc ?_ _) | (with_reducible refine Mod.drew ?_) | (with_reducible refine Mod.drewN ?_ _)))
  go_enter Tryz.func33, Tryz.ntmps33
  go_wp2_with fail
  refine (equal_calls b off cap b2 off2 cap2 xs ys _ hl hl2 (hx.ext E1) (hy.ext E1)).mono ?_
  rintro e w1 ⟨rfl, hE⟩
  go_wp2; go_ret; exact ⟨by rw [H.out]; rfl, E1.trans hE⟩

/-- Owner's answer -/
def ownerV (ep n : Int) (xs : List Int) (part : Int) : Int × Bool :=
  if rightB ep n xs ∧ 0 ≤ part ∧ part < xs.length then (xs.getD part.toNat 0, true) else (0, false)

theorem owner_calls (ep n : Int) (b off cap : Nat) (xs : List Int) (part : Int) (w : World) (hl : xs.length ≤ 4096) (hx : IA w b off xs) :
    Calls Tryz.prog 36 #[.agg #[i64 ep, i64 n, .slice (some ⟨b, off, none⟩) xs.length cap], i64 part] w
      fun e w' => e = .returned (.tuple #[i64 (ownerV ep n xs part).1, .bool (ownerV ep n xs part).2]) ∧ Ext w w' := by
  have E1 : Ext w (w.alloc (.cells #[i64 ep, i64 n, .slice (some ⟨b, off, none⟩) xs.length cap] 28)) := by (refine Mod.to_ext (S := []) ?_ (by simp); repeat (first | (with_reducible exact Mod.refl _ _) | (with_reducible assumption) | (with_reducible refine Mod.alloc ?_ _) | (with_reducible refine Mod.drew ?_) | (with_reducible refine Mod.drewN ?_ _)))
  cases hr : rightB ep n xs with
  | false =>
    have hv : ownerV ep n xs part = (0, false) := by simp [ownerV, hr]
    have H := Lib.hid hv; clear hv
    have H2 := Lib.hid hr; clear hr
    go_enter Tryz.func36, Tryz.ntmps36
    go_wp2_with fail
    refine (right_calls ep n b off cap xs _ hl (hx.ext E1)).mono ?_
    rintro e w1 ⟨rfl, rfl⟩
    rw [H2.out]
    go_wp2; go_ret2; exact ⟨by rw [H.out]; rfl, by (refine Mod.to_ext (S := []) ?_ (by simp); repeat (first | (with_reducible exact Mod.refl _ _) | (with_reducible assumption) | (with_reducible refine Mod.alloc ?_ _) | (with_reducible refine Mod.drew ?_) | (with_reducible refine Mod.drewN ?_ _)))⟩
  | true =>
    by_cases h1 : part < 0
    · have hv : ownerV ep n xs part = (0, false) := by
        unfold ownerV; rw [if_neg]; omega
      have H := Lib.hid hv; clear hv
      have H2 := Lib.hid hr; clear hr
      go_enter Tryz.func36, Tryz.ntmps36
      go_wp2_with fail
      refine (right_calls ep n b off cap xs _ hl (hx.ext E1)).mono ?_
      rintro e w1 ⟨rfl, rfl⟩
      rw [H2.out]
      go_wp2; go_ret2; exact ⟨by rw [H.out]; rfl, by (refine Mod.to_ext (S := []) ?_ (by simp); repeat (first | (with_reducible exact Mod.refl _ _) | (with_reducible assumption) | (with_reducible refine Mod.alloc ?_ _) | (with_reducible refine Mod.drew ?_) | (with_reducible refine Mod.drewN ?_ _)))⟩
    · obtain ⟨p, rfl⟩ := Int.eq_ofNat_of_zero_le (show 0 ≤ part by omega)
      by_cases h2 : p < xs.length
      · have hv : ownerV ep n xs p = (xs[p], true) := by
          unfold ownerV; rw [if_pos ⟨hr, by omega, by omega⟩]; simp [h2]
        have hc := hx.at h2
        have H := Lib.hid hv; clear hv
        have H2 := Lib.hid hr; clear hr
        go_enter Tryz.func36, Tryz.ntmps36
        go_wp2_with fail
        refine (right_calls ep n b off cap xs _ hl (hx.ext E1)).mono ?_
        rintro e w1 ⟨rfl, rfl⟩
        rw [H2.out]
        have hb : b < w.heap.size := World.block_lt_of_cell? w _ hc
        go_wp2; go_ret2; exact ⟨by rw [H.out]; rfl, by (refine Mod.to_ext (S := []) ?_ (by simp); repeat (first | (with_reducible exact Mod.refl _ _) | (with_reducible assumption) | (with_reducible refine Mod.alloc ?_ _) | (with_reducible refine Mod.drew ?_) | (with_reducible refine Mod.drewN ?_ _)))⟩
      · have hv : ownerV ep n xs p = (0, false) := by
          unfold ownerV; rw [if_neg]; omega
        have H := Lib.hid hv; clear hv
        have H2 := Lib.hid hr; clear hr
        go_enter Tryz.func36, Tryz.ntmps36
        go_wp2_with fail
        refine (right_calls ep n b off cap xs _ hl (hx.ext E1)).mono ?_
        rintro e w1 ⟨rfl, rfl⟩
        rw [H2.out]
        go_wp2; go_ret2; exact ⟨by rw [H.out]; rfl, by (refine Mod.to_ext (S := []) ?_ (by simp); repeat (first | (with_reducible exact Mod.refl _ _) | (with_reducible assumption) | (with_reducible refine Mod.alloc ?_ _) | (with_reducible refine Mod.drew ?_) | (with_reducible refine Mod.drewN ?_ _)))⟩


/-- May's answer -/
def mayV (ep n : Int) (xs : List Int) (part dst : Int) : Int :=
  if rightB ep n xs = false ∨ 2147483647 ≤ ep then 1
  else if part < 0 ∨ xs.length ≤ part then 21
  else if dst < 0 ∨ n ≤ dst then 22
  else if xs.getD part.toNat 0 = dst then 23
  else 0

theorem may_calls (ep n : Int) (b off cap : Nat) (xs : List Int) (part dst : Int) (w : World) (hl : xs.length ≤ 4096) (hx : IA w b off xs) :
    Calls Tryz.prog 60 #[.agg #[i64 ep, i64 n, .slice (some ⟨b, off, none⟩) xs.length cap], i64 part, i64 dst] w
      fun e w' => e = .returned (i64 (mayV ep n xs part dst)) ∧ Ext w w' := by
  have E1 : Ext w (w.alloc (.cells #[i64 ep, i64 n, .slice (some ⟨b, off, none⟩) xs.length cap] 28)) := by (refine Mod.to_ext (S := []) ?_ (by simp); repeat (first | (with_reducible exact Mod.refl _ _) | (with_reducible assumption) | (with_reducible refine Mod.alloc ?_ _) | (with_reducible refine Mod.drew ?_) | (with_reducible refine Mod.drewN ?_ _)))
  have R := right_calls ep n b off cap xs _ hl (hx.ext E1)
  cases hr : rightB ep n xs with
  | false =>
    have hv : mayV ep n xs part dst = 1 := by unfold mayV; rw [if_pos (.inl hr)]
    have H := Lib.hid hv; clear hv
    rw [hr] at R
    clear hr
    go_enter Tryz.func60, Tryz.ntmps60
    go_wp2_with fail
    refine R.mono ?_
    rintro e w1 ⟨rfl, rfl⟩
    go_wp2; go_ret; exact ⟨by rw [H.out]; rfl, by (refine Mod.to_ext (S := []) ?_ (by simp); repeat (first | (with_reducible exact Mod.refl _ _) | (with_reducible assumption) | (with_reducible refine Mod.alloc ?_ _) | (with_reducible refine Mod.drew ?_) | (with_reducible refine Mod.drewN ?_ _)))⟩
  | true =>
    rw [hr] at R
    by_cases h0 : 2147483647 ≤ ep
    · have hv : mayV ep n xs part dst = 1 := by unfold mayV; rw [if_pos (.inr h0)]
      have H := Lib.hid hv; clear hv
      clear hr
      go_enter Tryz.func60, Tryz.ntmps60
      go_wp2_with fail
      refine R.mono ?_
      rintro e w1 ⟨rfl, rfl⟩
      go_wp2; go_ret; exact ⟨by rw [H.out]; rfl, by (refine Mod.to_ext (S := []) ?_ (by simp); repeat (first | (with_reducible exact Mod.refl _ _) | (with_reducible assumption) | (with_reducible refine Mod.alloc ?_ _) | (with_reducible refine Mod.drew ?_) | (with_reducible refine Mod.drewN ?_ _)))⟩
    by_cases h1 : part < 0
    · have hv : mayV ep n xs part dst = 21 := by unfold mayV; rw [if_neg (by rw [hr]; simp; omega), if_pos (.inl h1)]
      have H := Lib.hid hv; clear hv
      clear hr
      go_enter Tryz.func60, Tryz.ntmps60
      go_wp2_with fail
      refine R.mono ?_
      rintro e w1 ⟨rfl, rfl⟩
      go_wp2; go_ret; exact ⟨by rw [H.out]; rfl, by (refine Mod.to_ext (S := []) ?_ (by simp); repeat (first | (with_reducible exact Mod.refl _ _) | (with_reducible assumption) | (with_reducible refine Mod.alloc ?_ _) | (with_reducible refine Mod.drew ?_) | (with_reducible refine Mod.drewN ?_ _)))⟩
    obtain ⟨p, rfl⟩ := Int.eq_ofNat_of_zero_le (show 0 ≤ part by omega)
    by_cases h2 : p < xs.length
    case neg =>
      have hv : mayV ep n xs p dst = 21 := by unfold mayV; rw [if_neg (by rw [hr]; simp; omega), if_pos (.inr (by omega))]
      have H := Lib.hid hv; clear hv
      clear hr
      go_enter Tryz.func60, Tryz.ntmps60
      go_wp2_with fail
      refine R.mono ?_
      rintro e w1 ⟨rfl, rfl⟩
      go_wp2; go_ret; exact ⟨by rw [H.out]; rfl, by (refine Mod.to_ext (S := []) ?_ (by simp); repeat (first | (with_reducible exact Mod.refl _ _) | (with_reducible assumption) | (with_reducible refine Mod.alloc ?_ _) | (with_reducible refine Mod.drew ?_) | (with_reducible refine Mod.drewN ?_ _)))⟩
    by_cases h3 : dst < 0
    · have hv : mayV ep n xs p dst = 22 := by unfold mayV; rw [if_neg (by rw [hr]; simp; omega), if_neg (by omega), if_pos (.inl h3)]
      have H := Lib.hid hv; clear hv
      clear hr
      go_enter Tryz.func60, Tryz.ntmps60
      go_wp2_with fail
      refine R.mono ?_
      rintro e w1 ⟨rfl, rfl⟩
      go_wp2; go_ret; exact ⟨by rw [H.out]; rfl, by (refine Mod.to_ext (S := []) ?_ (by simp); repeat (first | (with_reducible exact Mod.refl _ _) | (with_reducible assumption) | (with_reducible refine Mod.alloc ?_ _) | (with_reducible refine Mod.drew ?_) | (with_reducible refine Mod.drewN ?_ _)))⟩
    by_cases h4 : n ≤ dst
    · have hv : mayV ep n xs p dst = 22 := by unfold mayV; rw [if_neg (by rw [hr]; simp; omega), if_neg (by omega), if_pos (.inr h4)]
      have H := Lib.hid hv; clear hv
      clear hr
      go_enter Tryz.func60, Tryz.ntmps60
      go_wp2_with fail
      refine R.mono ?_
      rintro e w1 ⟨rfl, rfl⟩
      go_wp2; go_ret; exact ⟨by rw [H.out]; rfl, by (refine Mod.to_ext (S := []) ?_ (by simp); repeat (first | (with_reducible exact Mod.refl _ _) | (with_reducible assumption) | (with_reducible refine Mod.alloc ?_ _) | (with_reducible refine Mod.drew ?_) | (with_reducible refine Mod.drewN ?_ _)))⟩
    have hc := hx.at h2
    have hb : b < w.heap.size := World.block_lt_of_cell? w _ hc
    by_cases h5 : xs[p] = dst
    · have hv : mayV ep n xs p dst = 23 := by unfold mayV; rw [if_neg (by rw [hr]; simp; omega), if_neg (by omega), if_neg (by omega), if_pos (by simpa [h2] using h5)]
      have hq : (xs[p] == dst) = true := by simpa using h5
      have H := Lib.hid hv; clear hv
      clear hr h5
      go_enter Tryz.func60, Tryz.ntmps60
      go_wp2_with fail
      refine R.mono ?_
      rintro e w1 ⟨rfl, rfl⟩
      go_wp2; go_ret; exact ⟨by rw [H.out]; rfl, by (refine Mod.to_ext (S := []) ?_ (by simp); repeat (first | (with_reducible exact Mod.refl _ _) | (with_reducible assumption) | (with_reducible refine Mod.alloc ?_ _) | (with_reducible refine Mod.drew ?_) | (with_reducible refine Mod.drewN ?_ _)))⟩
    · have hv : mayV ep n xs p dst = 0 := by unfold mayV; rw [if_neg (by rw [hr]; simp; omega), if_neg (by omega), if_neg (by omega), if_neg (by simpa [h2] using h5)]
      have hq : (xs[p] == dst) = false := by simpa using h5
      have H := Lib.hid hv; clear hv
      clear hr h5
      go_enter Tryz.func60, Tryz.ntmps60
      go_wp2_with fail
      refine R.mono ?_
      rintro e w1 ⟨rfl, rfl⟩
      go_wp2; go_ret; exact ⟨by rw [H.out]; rfl, by (refine Mod.to_ext (S := []) ?_ (by simp); repeat (first | (with_reducible exact Mod.refl _ _) | (with_reducible assumption) | (with_reducible refine Mod.alloc ?_ _) | (with_reducible refine Mod.drew ?_) | (with_reducible refine Mod.drewN ?_ _)))⟩

end Go.Proofs.YtchmhkdnegngdaaGreat
