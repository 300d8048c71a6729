/- Package table, last: New. -/
import Derived.Deep.RegionLaw
import Derived.Deep.AppendLies
import Derived.Deep.DrawnRows
import Derived.Test.YtchmhkdnegngdaaGreatTd
set_option linter.unusedVariables false
set_option linter.unusedSimpArgs false
namespace Go.Proofs.YtchmhkdnegngdaaGreat
open Go.RowKit

attribute [local go_sem ↓] Go.wp_at_zero Go.wp_at_succ

/-- the owners of a new table -/
def firstOwners (nodes shards : Nat) : List Int := (List.range shards).map (fun i => ((i % nodes : Nat) : Int))

theorem firstOwners_succ (nodes k : Nat) : firstOwners nodes (k + 1) = firstOwners nodes k ++ [((k % nodes : Nat) : Int)] := by
  simp [firstOwners, List.range_succ]

theorem firstOwners_len (nodes k : Nat) : (firstOwners nodes k).length = k := by simp [firstOwners]

def NewTable2 (ep n : Int) (xs : List Int) (w : World) (e : Ending) (w' : World) : Prop :=
  ∃ g cap, e = .returned (.tuple #[.agg #[i64 ep, i64 n, .slice (some ⟨g, 0, none⟩) xs.length cap], i64 0]) ∧ IA w' g 0 xs ∧ w.heap.size ≤ g ∧ g < w'.heap.size ∧ Ext w w'

set_option maxRecDepth 100000 in
set_option maxHeartbeats 400000 in
theorem tnew_calls (nodes shards : Nat) (w : World) (h1 : 1 ≤ nodes) (h2 : nodes ≤ 4) (h3 : 1 ≤ shards) (h4 : shards ≤ 8) :
    Calls Tryz.prog 31 #[i64 nodes, i64 shards] w (NewTable2 1 nodes (firstOwners nodes shards) w) := by
  obtain ⟨i0, hi, hz0, hz1, hz2⟩ := info_parts info3
  go_enter Tryz.func31, Tryz.ntmps31
  go_wp2_with fail
  go_loopw [26] (fun i wr => ∃ (k : Nat) (v : Value), k ≤ shards ∧ i = i64 k ∧ Blk wr (w.heap.size + 1) [i64 1, i64 nodes, v] 28 ∧ Blk wr w.heap.size [i64 0, i64 0, .slice none 0 0] 28 ∧
      wr.ownsRow (w.heap.size + 2) 3 1 v k ((firstOwners nodes k).map i64) ∧ Ext w wr) (fun i _ => shards - (intOf i).toNat)
  case atStart => 
    refine ⟨0, _, Nat.zero_le _, rfl, Blk.at _ _ _ _ (by simp), (Blk.new w [i64 0, i64 0, .slice none 0 0] 28).old _, World.ownsRow_nil _ _ _ _, ?_⟩
    (refine Mod.to_ext (S := []) ?_ (by simp); repeat (first | (with_reducible exact Mod.refl _ _) | (with_reducible assumption) | (with_reducible refine Mod.alloc ?_ _) | (with_reducible refine Mod.drew ?_) | (with_reducible refine Mod.drewN ?_ _)))
  case round =>
    obtain ⟨k, v, hk, rfl, B1, B0, ho, hE⟩ := hrel
    obtain ⟨c1, f1⟩ := B1.read
    obtain ⟨c0, f0⟩ := B0.read
    by_cases hlt : k < shards
    · have hmod : ¬ (nodes : Int) = 0 := by omega
      have hn0 : ¬ nodes = 0 := by omega
      have ht : ((k : Int).tmod (nodes : Int)) = ((k % nodes : Nat) : Int) := by rw [Int.tmod_eq_emod_of_nonneg (by omega)]; simp
      have hL := B1.lt
      have hL2 : ¬ w.heap.size + 1 = wr.heap.size := by omega
      go_wp2_with fail
      have hob : ∀ j, v.ownBlock = some j → w.heap.size + 2 ≤ j := fun j hj => (ho.lt j hj).1
      have HO := Lib.hid ho
      have HB := Lib.hid hob
      clear ho hob
      have BB : ∀ (x y : World) (row : Option Nat), Blk x (w.heap.size + 1) [i64 1, i64 nodes, v] 28 → x.grownBy y row → v.ownBlock = row → Blk y (w.heap.size + 1) [i64 1, i64 nodes, v] 28   := fun x y row h hg e => h.grown hg (by rw [← e]; intro hh; have := HB.out _ hh.symm; omega)
      have HBB := Lib.hid BB; clear BB
      have B1' := Lib.hid B1; clear B1
      go_region_law ((refine step_append_lies _ (by rfl) _ _ 26 (by rfl) (w.heap.size + 2) 3 i0 (.int .i64 0) 1 8 Tryz.underlying26 hi hz0 hz1 hz2 (by rfl) (by omega) v k _ (by rfl) (by exact (HO.out.alloc _).drew) ⟨wr.heap.size, 0, none⟩ 1 1 [.int .i64 ((k % nodes : Nat) : Int)] (by rfl) (by rfl) (by intro j u hj; match j, hj with | 0, hj => (simp at hj; subst hj; simp [Addr.add])) (by intro u hu; simp at hu; subst hu; rfl) (by omega) (by unfold maxLen; omega) (by omega) (by simp; omega) _ rfl ?_; intro g cap w1 hown hgrow hat hlt; have B2 := HBB.out _ _ _ ((B1'.out.old _).drew) hgrow rfl; have c2 := B2.read.1 2; have f2 := B2.read.2 2; simp only [List.getElem?_cons_succ, List.getElem?_cons_zero] at c2))
      all_goals (go_wp2_with fail)
      all_goals
        go_roundw
        case rel =>
          have B1g := (HBB.out _ _ _ ((B1'.out.old (.cells #[.int .i64 ((k % nodes : Nat) : Int)] 3)).drew) hgrow rfl).set 2 (.slice (some ⟨g, 0, none⟩) (k + 1) cap)
          have B0g := (((B0.old (.cells #[.int .i64 ((k % nodes : Nat) : Int)] 3)).drew).grown hgrow (by intro hh; have := HB.out _ hh.symm; omega)).set_other ⟨w.heap.size + 1, 2, none⟩ (.slice (some ⟨g, 0, none⟩) (k + 1) cap) (by simp)
          have hg2 : w.heap.size + 2 ≤ g := (hown.lt g rfl).1
          have hown2 := ownsRow_setCell_other hown (a := ⟨w.heap.size + 1, 2, none⟩) (by intro hh; injection hh with hh; simp only at hh; omega) (.slice (some ⟨g, 0, none⟩) (k + 1) cap)
          have M : Mod [w.heap.size + 1] w (w1.setCell ⟨w.heap.size + 1, 2, none⟩ (.slice (some ⟨g, 0, none⟩) (k + 1) cap)) :=
            Mod.setCell (Mod.grown (Mod.drew (Mod.alloc (Mod.of_ext hE) (.cells #[.int .i64 ((k % nodes : Nat) : Int)] 3))) hgrow (by intro j hj; have := HB.out _ hj; right; omega)) (by simp) _
          refine ⟨k + 1, _, by omega, by go_num, B1g, B0g, ?_, M.to_ext (by simp)⟩
          rw [firstOwners_succ, List.map_append]
          exact hown2
        case measure => simp [intOf]; omega
    · have : k = shards := by omega
      subst this
      obtain ⟨g, cap, rfl, hb, hL⟩ := ho.form (by omega)
      go_wp2_with fail
      refine bodyPost_ret (v := .tuple #[.agg #[i64 1, i64 nodes, .slice (some ⟨g, 0, none⟩) k cap], i64 0]) (by simp [results, Tryz.results31, go_sem, c0]) rfl ?_
      have hi2 : IA wr g 0 (firstOwners nodes k) := by
        have ho2 : wr.ownsRow (w.heap.size + 2) 3 1 (.slice (some ⟨g, 0, none⟩) k cap) (firstOwners nodes k).length ((firstOwners nodes k).map i64) := by rw [firstOwners_len]; exact ho
        obtain ⟨g', cap', heq, _, _, hi, _⟩ := ownsRow_IA ho2 (by rw [firstOwners_len]; omega)
        have e : g = g' := by injection heq with h1 _ _; injection h1 with h1; injection h1 with h1
        rw [e]; exact hi
      unfold NewTable2
      refine ⟨g, cap, ?_, ?_, ?_, ?_, ?_⟩
      · rw [firstOwners_len]
      · refine IA.mod (S := [w.heap.size]) hi2 ?_ (by simp; omega)
        repeat (first | (with_reducible exact Mod.refl _ _) | (with_reducible assumption) | (with_reducible refine Mod.setCell ?_ (by simp) _) | (with_reducible refine Mod.alloc ?_ _) | (with_reducible refine Mod.drew ?_) | (with_reducible refine Mod.drewN ?_ _))
      · omega
      · simpa only [World.size_setCell] using hL
      · refine Mod.to_ext (S := [w.heap.size]) ?_ (by simp)
        have M0 : Mod [w.heap.size] w wr := Mod.of_ext hE
        repeat (first | (with_reducible exact Mod.refl _ _) | (with_reducible assumption) | (with_reducible refine Mod.setCell ?_ (by simp) _) | (with_reducible refine Mod.alloc ?_ _) | (with_reducible refine Mod.drew ?_) | (with_reducible refine Mod.drewN ?_ _))

end Go.Proofs.YtchmhkdnegngdaaGreat
