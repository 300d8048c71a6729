/- Package table, further: Copy, Move. -/
import Derived.Test.YtchmhkdnegngdaaGreatTc
set_option linter.unusedVariables false
set_option linter.unusedSimpArgs false
namespace Go.Proofs.YtchmhkdnegngdaaGreat
open Go.RowKit

/-- a table in new memory -/
def NewTable (ep n : Int) (xs : List Int) (w : World) (e : Ending) (w' : World) : Prop :=
  ∃ g cap, e = .returned (.agg #[i64 ep, i64 n, .slice (some ⟨g, 0, none⟩) xs.length cap]) ∧ w'.ownsRow w.heap.size 3 1 (.slice (some ⟨g, 0, none⟩) xs.length cap) xs.length (xs.map i64) ∧ Ext w w'

theorem copy_calls (ep n : Int) (b off cap : Nat) (xs : List Int) (w : World) (hl : xs.length ≤ 4096) (hx : IA w b off xs) (hne : 0 < xs.length) :
    Calls Tryz.prog 40 #[.agg #[i64 ep, i64 n, .slice (some ⟨b, off, none⟩) xs.length cap]] w (NewTable ep n xs w) := by
  have E1 : Ext w ((w.alloc (.cells #[i64 ep, i64 n, .slice (some ⟨b, off, none⟩) xs.length cap] 28)).alloc (.cells #[i64 0, i64 0, .slice none 0 0] 28)) := by (refine Mod.to_ext (S := []) ?_ (by simp); repeat (first | (with_reducible exact Mod.refl _ _) | (with_reducible assumption) | (with_reducible refine Mod.alloc ?_ _) | (with_reducible refine Mod.drew ?_) | (with_reducible refine Mod.drewN ?_ _)))
  have R := clone_calls b off cap xs _ hl (hx.ext E1)
  go_enter Tryz.func40, Tryz.ntmps40
  go_wp2_with fail
  refine R.mono ?_
  rintro e w1 ⟨v, rfl, ho, hE⟩
  obtain ⟨g, cap', rfl, hg, hg2, hi, hf⟩ := ownsRow_IA ho hne
  have hz := hE.size
  have B0 := ((Blk.new w [i64 ep, i64 n, .slice (some ⟨b, off, none⟩) xs.length cap] 28).old (.cells #[i64 0, i64 0, .slice none 0 0] 28)).ext hE
  have B1 := (Blk.new (w.alloc (.cells #[i64 ep, i64 n, .slice (some ⟨b, off, none⟩) xs.length cap] 28)) [i64 0, i64 0, .slice none 0 0] 28).ext hE
  obtain ⟨c0, f0⟩ := B0.read
  obtain ⟨c1, f1⟩ := B1.read
  simp only [World.size_alloc] at c1 f1
  go_wp2
  refine bodyPost_ret (v := .agg #[i64 ep, i64 n, .slice (some ⟨g, 0, none⟩) xs.length cap']) (by simp [results, Tryz.results40, go_sem, c1]) rfl ?_
  have M : Mod [w.heap.size, w.heap.size + 1] w1 ((((w1.setCell ⟨w.heap.size, 2, none⟩ (.slice (some ⟨g, 0, none⟩) xs.length cap')).setCell ⟨w.heap.size + 1, 0, none⟩ (i64 ep)).setCell ⟨w.heap.size + 1, 1, none⟩ (i64 n)).setCell ⟨w.heap.size + 1, 2, none⟩ (.slice (some ⟨g, 0, none⟩) xs.length cap')) :=
    ((((Mod.refl _ _).setCell (by simp) _).setCell (by simp) _).setCell (by simp) _).setCell (by simp) _
  refine ⟨g, cap', rfl, ownsRow_base (ownsRow_mod ho M (by simp <;> omega)) (by simp; omega), ?_⟩
  exact ((Mod.of_ext (E1.trans hE)).trans M).to_ext (by simp)



theorem tmove_err (ep n : Int) (b off cap : Nat) (xs : List Int) (part dst : Int) (w : World) (hl : xs.length ≤ 4096) (hx : IA w b off xs) (hm : mayV ep n xs part dst ≠ 0) :
    Calls Tryz.prog 65 #[.agg #[i64 ep, i64 n, .slice (some ⟨b, off, none⟩) xs.length cap], i64 part, i64 dst] w
      fun e w' => e = .returned (.tuple #[.agg #[i64 0, i64 0, .slice none 0 0], i64 (mayV ep n xs part dst)]) ∧ Ext w w' := by
  have E1 : Ext w ((w.alloc (.cells #[i64 ep, i64 n, .slice (some ⟨b, off, none⟩) xs.length cap] 28)).alloc (.cells #[i64 0, i64 0, .slice none 0 0] 28)) := by (refine Mod.to_ext (S := []) ?_ (by simp); repeat (first | (with_reducible exact Mod.refl _ _) | (with_reducible assumption) | (with_reducible refine Mod.alloc ?_ _) | (with_reducible refine Mod.drew ?_) | (with_reducible refine Mod.drewN ?_ _)))
  have R := may_calls ep n b off cap xs part dst _ hl (hx.ext E1)
  have hq : (mayV ep n xs part dst != 0) = true := by simpa using hm
  generalize mayV ep n xs part dst = r at *
  clear hm
  go_enter Tryz.func65, Tryz.ntmps65
  go_wp2_with fail
  refine R.mono ?_
  rintro e w1 ⟨rfl, hE⟩
  have hz := hE.size
  have B1 := (Blk.new (w.alloc (.cells #[i64 ep, i64 n, .slice (some ⟨b, off, none⟩) xs.length cap] 28)) [i64 0, i64 0, .slice none 0 0] 28).ext hE
  obtain ⟨c1, f1⟩ := B1.read
  simp only [World.size_alloc] at c1 f1
  go_wp2
  refine bodyPost_ret (v := .tuple #[.agg #[i64 0, i64 0, .slice none 0 0], i64 r]) (by simp [results, Tryz.results65, go_sem, c1]) rfl ⟨rfl, ?_⟩
  have M : Mod [w.heap.size + 1] w (((w1.setCell ⟨w.heap.size + 1, 0, none⟩ (i64 0)).setCell ⟨w.heap.size + 1, 1, none⟩ (i64 0)).setCell ⟨w.heap.size + 1, 2, none⟩ (.slice none 0 0)) := by
    have M0 : Mod [w.heap.size + 1] w w1 := (Mod.of_ext E1).ext hE
    repeat (first | (with_reducible exact Mod.refl _ _) | (with_reducible assumption) | (with_reducible refine Mod.setCell ?_ (by simp) _) | (with_reducible refine Mod.alloc ?_ _) | (with_reducible refine Mod.drew ?_) | (with_reducible refine Mod.drewN ?_ _))
  exact M.to_ext (by simp)

theorem mayV_zero {ep n : Int} {xs : List Int} {part dst : Int} (h : mayV ep n xs part dst = 0) :
    rightB ep n xs = true ∧ ep < 2147483647 ∧ 0 ≤ part ∧ part < xs.length ∧ 0 ≤ dst ∧ dst < n ∧ xs.getD part.toNat 0 ≠ dst := by
  unfold mayV at h
  split at h
  · cases h
  split at h
  · cases h
  split at h
  · cases h
  split at h
  · cases h
  · rename_i h1 h2 h3 h4
    cases hr : rightB ep n xs with
    | false => exact absurd (.inl hr) h1
    | true => exact ⟨rfl, by omega, by omega, by omega, by omega, by omega, h4⟩

theorem rightB_true {ep n : Int} {xs : List Int} (h : rightB ep n xs = true) :
    1 ≤ ep ∧ 1 ≤ n ∧ n ≤ 4 ∧ 1 ≤ xs.length ∧ xs.length ≤ 8 ∧ ∀ x ∈ xs, 0 ≤ x ∧ x < n := by
  simp only [rightB, Bool.and_eq_true, decide_eq_true_eq, Bool.not_eq_true'] at h
  obtain ⟨⟨⟨⟨⟨h1, h2⟩, h3⟩, h4⟩, h5⟩, h6⟩ := h
  refine ⟨h1, h2, h3, h4, h5, fun x hx => ?_⟩
  have := List.any_eq_false.1 h6 x hx
  simp only [badOwner, Bool.or_eq_true, decide_eq_true_eq] at this
  omega

/-- a store into a slice of ints that is owned -/
theorem IA.set {w : World} {g : Nat} {xs : List Int} (h : IA w g 0 xs) (p : Nat) (x : Int) (hp : p < xs.length) : IA (w.setCell ⟨g, p, none⟩ (i64 x)) g 0 (xs.set p x) := by
  intro i hi
  rw [List.length_set] at hi
  by_cases e : p = i
  · subst e
    rw [Nat.zero_add, World.cell?_setCell_same _ _ _ (u := i64 (xs.getD p 0)) (by have := h p hp; rwa [Nat.zero_add] at this)]
    simp [hp]
  · rw [World.cell?_setCell_other _ _ _ _ (by intro k; injection k with k1 k2; omega), h i hi]
    simp [List.getElem?_set, e]

/-- a table moved on -/
def MovedTable (ep n : Int) (xs : List Int) (w : World) (e : Ending) (w' : World) : Prop :=
  ∃ g cap, e = .returned (.tuple #[.agg #[i64 (ep + 1), i64 n, .slice (some ⟨g, 0, none⟩) xs.length cap], i64 0]) ∧ w.heap.size ≤ g ∧ g < w'.heap.size ∧ IA w' g 0 xs ∧ Ext w w'

theorem tmove_ok (ep n : Int) (b off cap : Nat) (xs : List Int) (part dst : Int) (w : World) (hl : xs.length ≤ 4096) (hx : IA w b off xs) (hm : mayV ep n xs part dst = 0) :
    Calls Tryz.prog 65 #[.agg #[i64 ep, i64 n, .slice (some ⟨b, off, none⟩) xs.length cap], i64 part, i64 dst] w
      (MovedTable ep n (xs.set part.toNat dst) w) := by
  have E1 : Ext w ((w.alloc (.cells #[i64 ep, i64 n, .slice (some ⟨b, off, none⟩) xs.length cap] 28)).alloc (.cells #[i64 0, i64 0, .slice none 0 0] 28)) := by (refine Mod.to_ext (S := []) ?_ (by simp); repeat (first | (with_reducible exact Mod.refl _ _) | (with_reducible assumption) | (with_reducible refine Mod.alloc ?_ _) | (with_reducible refine Mod.drew ?_) | (with_reducible refine Mod.drewN ?_ _)))
  have R := may_calls ep n b off cap xs part dst _ hl (hx.ext E1)
  rw [hm] at R
  obtain ⟨hr, h1, h2, h3, h4, h5, h6⟩ := mayV_zero hm
  obtain ⟨_, _, _, hr4, hr5, _⟩ := rightB_true hr
  obtain ⟨p, rfl⟩ := Int.eq_ofNat_of_zero_le h2
  clear hm h6 hr
  go_enter Tryz.func65, Tryz.ntmps65
  go_wp2_with fail
  refine R.mono ?_
  rintro e w1 ⟨rfl, hE⟩
  have hz := hE.size
  have B0 := ((Blk.new w [i64 ep, i64 n, .slice (some ⟨b, off, none⟩) xs.length cap] 28).old (.cells #[i64 0, i64 0, .slice none 0 0] 28)).ext hE
  have B1 := (Blk.new (w.alloc (.cells #[i64 ep, i64 n, .slice (some ⟨b, off, none⟩) xs.length cap] 28)) [i64 0, i64 0, .slice none 0 0] 28).ext hE
  obtain ⟨c0, f0⟩ := B0.read
  simp only [World.size_alloc] at hz B1
  go_wp2_with fail
  refine (copy_calls ep n b off cap xs w1 hl (hx.ext (E1.trans hE)) (by omega)).mono ?_
  rintro e w2 ⟨g, cap', rfl, ho, hE2⟩
  obtain ⟨g', cap2, heq, hg, hg2, hi, hf⟩ := ownsRow_IA ho (by omega)
  cases heq
  have hz2 := hE2.size
  clear c0 f0
  obtain ⟨c0, f0⟩ := (B0.ext hE2).read
  obtain ⟨c1, f1⟩ := (B1.ext hE2).read
  have hc := hi.at0 (i := p) (by omega)
  rw [Nat.zero_add] at hc
  have hfp := hf p
  have H := Lib.hid (ownsRow_same ho (fun _ _ => rfl))
  have n2 : ¬ w.heap.size = g := by omega
  have n4 : ¬ w.heap.size + 1 = g := by omega
  go_wp2_with fail
  refine bodyPost_ret (v := .tuple #[.agg #[i64 (ep + 1), i64 n, .slice (some ⟨g, 0, none⟩) xs.length cap'], i64 0]) (by simp [results, Tryz.results65, go_sem, c1, n4]) rfl ?_
  have hp : p < xs.length := by omega
  have i1 : IA ((((w2.setCell ⟨w.heap.size, 0, none⟩ (i64 ep)).setCell ⟨w.heap.size, 1, none⟩ (i64 n)).setCell ⟨w.heap.size, 2, none⟩ (.slice (some ⟨g, 0, none⟩) xs.length cap')).setCell ⟨w.heap.size, 0, none⟩ (i64 (ep + 1))) g 0 xs := by
    refine IA.mod (S := [w.heap.size]) hi ?_ (by simp; omega)
    repeat (first | (with_reducible exact Mod.refl _ _) | (with_reducible assumption) | (with_reducible refine Mod.setCell ?_ (by simp) _) | (with_reducible refine Mod.alloc ?_ _) | (with_reducible refine Mod.drew ?_) | (with_reducible refine Mod.drewN ?_ _))
  have i2 := i1.set p dst hp
  unfold MovedTable
  rw [Int.toNat_natCast]
  refine ⟨g, cap', ?_, ?_, ?_, ?_, ?_⟩
  · rw [List.length_set]
  · omega
  · simpa only [World.size_setCell] using hg2
  · refine IA.mod (S := [w.heap.size + 1]) i2 ?_ (by simp; omega)
    repeat (first | (with_reducible exact Mod.refl _ _) | (with_reducible assumption) | (with_reducible refine Mod.setCell ?_ (by simp) _) | (with_reducible refine Mod.alloc ?_ _) | (with_reducible refine Mod.drew ?_) | (with_reducible refine Mod.drewN ?_ _))
  · refine Mod.to_ext (S := [w.heap.size, w.heap.size + 1, g]) ?_ (by simp; omega)
    have M0 : Mod [w.heap.size, w.heap.size + 1, g] w w2 := Mod.of_ext (E1.trans (hE.trans hE2))
    repeat (first | (with_reducible exact Mod.refl _ _) | (with_reducible assumption) | (with_reducible refine Mod.setCell ?_ (by simp) _) | (with_reducible refine Mod.alloc ?_ _) | (with_reducible refine Mod.drew ?_) | (with_reducible refine Mod.drewN ?_ _))
end Go.Proofs.YtchmhkdnegngdaaGreat
