/- The laws' own words: first, ready, done. -/
import Derived.Test.YtchmhkdnegngdaaGreatTi
set_option linter.unusedVariables false
set_option linter.unusedSimpArgs false
namespace Go.Proofs.YtchmhkdnegngdaaGreat
open Go.RowKit


/-- a message of a node: its kind, move, shard, code -/
def ncells (k mv part code : Int) : List Value :=
  [.int .u8 k, i64 mv, i64 part, i64 0, i64 0, i64 0, i64 code, .int .u64 0, i64 0, i64 0, i64 0, i64 0, .int .u8 0, .string ⟨#[]⟩, i64 0, i64 0, i64 0, i64 0, i64 0, .slice none 0 0, .slice none 0 0, .string ⟨#[]⟩]

theorem ncells_one (k mv part code : Int) : (ncells k mv part code).toArray.all (·.oneCell') = true := by
  rw [Array.all_eq_true_iff_forall_mem]
  intro x hx
  simp only [ncells, List.mem_toArray, List.mem_cons, List.not_mem_nil, or_false] at hx
  rcases hx with h | h | h | h | h | h | h | h | h | h | h | h | h | h | h | h | h | h | h | h | h | h <;> (rw [h]; rfl)

theorem ncells_msg (k mv part code : Int) : MsgC (ncells k mv part code).toArray k mv part code := ⟨rfl, rfl, rfl, rfl⟩

theorem mready_calls (mv part code : Int) (w : World) :
    Calls Tryz.prog 15 #[i64 mv, i64 part, i64 code] w (fun e w' => e = .returned (.agg (ncells 10 mv part code).toArray) ∧ Ext w w') := by
  have G := Lib.hid (heap_alloc_new w zmsg)
  go_enter Tryz.func15, Tryz.ntmps15
  go_wp2_with (refine wpList_store_row rfl 40 (.tmp 6) (.tmp 10) rfl w.heap.size (ncells 10 mv part code).toArray rfl rfl 40 _ G.out info40 rfl (ncells_one ..) ?_)
  refine bodyPost_ret (results_cell_row rfl _ _ w.heap.size 40 (ncells 10 mv part code).toArray (0, 0) _ rfl (setRow_heap _ _ _ _ 40 (0, 0) G.out) Tryz.underlying40 rfl info40) rfl ?_
  refine ⟨rfl, (Mod.setRow (S := []) ?_ (by right; omega) _).to_ext (by simp)⟩
  exact (Mod.refl _ _).alloc _

theorem mdone_calls (mv part : Int) (w : World) :
    Calls Tryz.prog 18 #[i64 mv, i64 part] w (fun e w' => e = .returned (.agg (ncells 13 mv part 0).toArray) ∧ Ext w w') := by
  have G := Lib.hid (heap_alloc_new w zmsg)
  go_enter Tryz.func18, Tryz.ntmps18
  go_wp2_with (refine wpList_store_row rfl 40 (.tmp 4) (.tmp 7) rfl w.heap.size (ncells 13 mv part 0).toArray rfl rfl 40 _ G.out info40 rfl (ncells_one ..) ?_)
  refine bodyPost_ret (results_cell_row rfl _ _ w.heap.size 40 (ncells 13 mv part 0).toArray (0, 0) _ rfl (setRow_heap _ _ _ _ 40 (0, 0) G.out) Tryz.underlying40 rfl info40) rfl ?_
  refine ⟨rfl, (Mod.setRow (S := []) ?_ (by right; omega) _).to_ext (by simp)⟩
  exact (Mod.refl _ _).alloc _

/-- what first leaves: the examples' table -/
def FirstPost (w : World) (e : Ending) (w' : World) : Prop :=
  ∃ g gc, e = .returned (.agg #[i64 1, i64 2, .slice (some ⟨g, 0, none⟩) 2 gc]) ∧ IA w' g 0 [0, 1] ∧ w.heap.size ≤ g ∧ Ext w w'

theorem first_calls (w : World) : Calls Tryz.prog 10 #[] w (FirstPost w) := by
  go_enter Tryz.func10, Tryz.ntmps10
  go_wp2_with fail
  have hb : Blk ((w.alloc (.cells #[i64 1, i64 2, .slice (some ⟨w.heap.size + 1, 0, none⟩) 2 2] 28)).alloc (.cells #[i64 0, i64 1] 3)) w.heap.size [i64 1, i64 2, .slice (some ⟨w.heap.size + 1, 0, none⟩) 2 2] 28 := (Blk.new w _ 28).old _
  have hb2 : Blk ((w.alloc (.cells #[i64 1, i64 2, .slice (some ⟨w.heap.size + 1, 0, none⟩) 2 2] 28)).alloc (.cells #[i64 0, i64 1] 3)) (w.heap.size + 1) [i64 0, i64 1] 3 := Blk.at _ _ 3 _ (by simp)
  refine bodyPost_ret (results_cell_row rfl _ _ w.heap.size 28 _ (0, 0) _ rfl hb Tryz.underlying28 rfl (by kernel_rfl)) rfl ?_
  unfold FirstPost
  refine ⟨w.heap.size + 1, 2, rfl, ?_, by omega, by (refine Mod.to_ext (S := []) ?_ (by simp); repeat (first | (with_reducible exact Mod.refl _ _) | (with_reducible assumption) | (with_reducible refine Mod.alloc ?_ _) | (with_reducible refine Mod.drew ?_) | (with_reducible refine Mod.drewN ?_ _)))⟩
  intro i hi
  rw [Nat.zero_add, hb2.read.1]
  match i, hi with
  | 0, _ => rfl
  | 1, _ => rfl

deriving instance DecidableEq for St

/-- the states of awake's coordinator -/
def aw0 : St := St.new 1 2 [0, 1]
theorem aw_order : aw0.order 0 1 = (⟨1, 2, [0, 1], [⟨1, 0, 0, 1, 1, 0⟩], 1, 0, 0⟩, 1, 0) := by decide +kernel
def aw1 : St := ⟨1, 2, [0, 1], [⟨1, 0, 0, 1, 1, 0⟩], 1, 0, 0⟩
theorem aw_ready : aw1.handle 1 10 1 0 1 = (⟨2, 2, [1, 1], [⟨1, 0, 0, 1, 2, 0⟩], 1, 0, 0⟩, true) := by decide +kernel
def aw2 : St := ⟨2, 2, [1, 1], [⟨1, 0, 0, 1, 2, 0⟩], 1, 0, 0⟩
theorem aw_done1 : aw2.handle 1 13 1 0 0 = (⟨2, 2, [1, 1], [⟨1, 0, 0, 1, 2, 2⟩], 1, 0, 0⟩, true) := by decide +kernel
def aw3 : St := ⟨2, 2, [1, 1], [⟨1, 0, 0, 1, 2, 2⟩], 1, 0, 0⟩
theorem aw_done0 : aw3.handle 0 13 1 0 0 = (⟨2, 2, [1, 1], [], 1, 1, 0⟩, true) := by decide +kernel
def aw4 : St := ⟨2, 2, [1, 1], [], 1, 1, 0⟩
end Go.Proofs.YtchmhkdnegngdaaGreat
