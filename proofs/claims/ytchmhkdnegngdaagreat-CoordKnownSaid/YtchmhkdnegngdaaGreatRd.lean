/- msg.Read. -/
import Derived.Test.YtchmhkdnegngdaaGreatWy
set_option linter.unusedVariables false
set_option linter.unusedSimpArgs false
namespace Go.Proofs.YtchmhkdnegngdaaGreat
open Go.RowKit


theorem Of_calls (S : ByteArray) (w : World) :
    Calls Tryz.prog 70 #[.string S] w (fun e w' => e = .returned (.pointer (some ⟨w.heap.size, 0, none⟩)) ∧ w.alloc (.cells #[.string S, i64 0, i64 0] 156) = w') := by
  go_enter Tryz.func70, Tryz.ntmps70
  go_wp2_with fail
  go_ret
  exact ⟨rfl, rfl⟩

theorem Mod.setRow {S : List Nat} {a b : World} (h : Mod S a b) {g : Nat} (hg : g ∈ S ∨ a.heap.size ≤ g) (C : Array Value) : Mod S a (b.setRow g C) :=
  ⟨h.os, h.tape, h.output, by rw [size_setRow]; exact h.size,
   fun k hk hs => (setRow_other b g k C (fun e => by subst e; exact hg.elim hs (fun h => by omega))).trans (h.block k hk hs)⟩

theorem Sl.mod {S : List Nat} {w w' : World} {o : Value} {xs : List Int} (h : Sl w o xs) (m : Mod S w w') (hs : ∀ q, o.ownBlock = some q → q ∉ S) : Sl w' o xs := by
  rcases h with h | ⟨h0, b, off, cap, rfl, hI⟩
  · exact .inl h
  · exact .inr ⟨h0, b, off, cap, rfl, hI.mod m (hs b rfl)⟩
theorem Sl.ext {w w' : World} {o : Value} {xs : List Int} (h : Sl w o xs) (m : Ext w w') : Sl w' o xs := h.mod (Mod.of_ext (S := []) m) (by simp)
theorem Sl.set_other {w : World} {o : Value} {xs : List Int} (h : Sl w o xs) (a : Addr) (u : Value) (hs : ∀ q, o.ownBlock = some q → q ≠ a.block) : Sl (w.setCell a u) o xs :=
  h.mod (S := [a.block]) (by repeat (first | (with_reducible exact Mod.refl _ _) | (with_reducible assumption) | (with_reducible refine Mod.setCell ?_ (by simp) _) | (with_reducible refine Mod.alloc ?_ _) | (with_reducible refine Mod.drew ?_) | (with_reducible refine Mod.drewN ?_ _))) (by simpa using hs)

theorem cells_ok (m : Ms) (o : Value) (ho : o.oneCell' = true) : (m.cells o).toArray.size = 22 ∧ (m.cells o).toArray.all (·.oneCell') = true := by
  have h : ∀ k mv part dst ep n, (mcells k mv part dst ep n o (.slice none 0 0)).toArray.all (·.oneCell') = true := by
    intro k mv part dst ep n
    rw [Array.all_eq_true_iff_forall_mem]
    intro x hx
    simp only [mcells, List.mem_toArray, List.mem_cons, List.not_mem_nil, or_false] at hx
    rcases hx with h | h | h | h | h | h | h | h | h | h | h | h | h | h | h | h | h | h | h | h | h | h <;> first | (rw [h]; rfl) | (rw [h]; exact ho)
  cases m <;> exact ⟨rfl, h _ _ _ _ _ _⟩

abbrev zmsg : Obj := .cells (mcells 0 0 0 0 0 0 (.slice none 0 0) (.slice none 0 0)).toArray 40

/-- what Read leaves -/
def ReadPost (m : Ms) (w : World) (e : Ending) (w' : World) : Prop :=
  ∃ o, e = .returned (.tuple #[.agg (m.cells o).toArray, i64 0]) ∧ Sl w' o (ints m.owners) ∧ Ext w w'

set_option maxRecDepth 100000 in
set_option maxHeartbeats 800000 in
theorem Read_calls (S : ByteArray) (m : Ms) (w : World) (hm : m.ok) (hs : S.data.toList = m.enc) (hSz : S.size ≤ 100000) :
    Calls Tryz.prog 56 #[.string S] w (ReadPost m w) := by
  have hmf : ∀ (fn : Fn) (first cap : Array Value) (w : World), (Instr.makeFunc fn first cap).run Tryz.prog w = .ok (.func fn first cap) w := fun _ _ _ _ => rfl
  go_enter Tryz.func56, Tryz.ntmps56
  go_wp2_with fail
  refine (Of_calls S _).mono ?_
  rintro e w' ⟨rfl, rfl⟩
  go_wp2_with fail
  have hE5 : Ext w (((((w.alloc zmsg).alloc zmsg).alloc (.cells #[.string S, i64 0, i64 0] 156)).alloc (.cells #[.pointer (some ⟨w.heap.size + 1 + 1, 0, none⟩)] 134)).alloc (.cells #[.pointer (some ⟨w.heap.size + 1 + 1 + 1, 0, none⟩)] 130)) := by (refine Mod.to_ext (S := []) ?_ (by simp); repeat (first | (with_reducible exact Mod.refl _ _) | (with_reducible assumption) | (with_reducible refine Mod.alloc ?_ _) | (with_reducible refine Mod.drew ?_) | (with_reducible refine Mod.drewN ?_ _)))
  have b0 : Blk (((((w.alloc zmsg).alloc zmsg).alloc (.cells #[.string S, i64 0, i64 0] 156)).alloc (.cells #[.pointer (some ⟨w.heap.size + 1 + 1, 0, none⟩)] 134)).alloc (.cells #[.pointer (some ⟨w.heap.size + 1 + 1 + 1, 0, none⟩)] 130)) w.heap.size (mcells 0 0 0 0 0 0 (.slice none 0 0) (.slice none 0 0)) 40 := ((((Blk.new w _ 40).old _).old _).old _).old _
  have b1 : Blk (((((w.alloc zmsg).alloc zmsg).alloc (.cells #[.string S, i64 0, i64 0] 156)).alloc (.cells #[.pointer (some ⟨w.heap.size + 1 + 1, 0, none⟩)] 134)).alloc (.cells #[.pointer (some ⟨w.heap.size + 1 + 1 + 1, 0, none⟩)] 130)) (w.heap.size + 1) (mcells 0 0 0 0 0 0 (.slice none 0 0) (.slice none 0 0)) 40 := (((Blk.at _ _ 40 _ (by simp)).old _).old _).old _
  have b2 : Blk (((((w.alloc zmsg).alloc zmsg).alloc (.cells #[.string S, i64 0, i64 0] 156)).alloc (.cells #[.pointer (some ⟨w.heap.size + 1 + 1, 0, none⟩)] 134)).alloc (.cells #[.pointer (some ⟨w.heap.size + 1 + 1 + 1, 0, none⟩)] 130)) (w.heap.size + 1 + 1) [.string S, i64 0, i64 0] 156 := ((Blk.at _ _ 156 _ (by simp)).old _).old _
  have b3 : Blk (((((w.alloc zmsg).alloc zmsg).alloc (.cells #[.string S, i64 0, i64 0] 156)).alloc (.cells #[.pointer (some ⟨w.heap.size + 1 + 1, 0, none⟩)] 134)).alloc (.cells #[.pointer (some ⟨w.heap.size + 1 + 1 + 1, 0, none⟩)] 130)) (w.heap.size + 1 + 1 + 1) [.pointer (some ⟨w.heap.size + 1 + 1, 0, none⟩)] 134 := (Blk.at _ _ 134 _ (by simp)).old _
  have b4 : Blk (((((w.alloc zmsg).alloc zmsg).alloc (.cells #[.string S, i64 0, i64 0] 156)).alloc (.cells #[.pointer (some ⟨w.heap.size + 1 + 1, 0, none⟩)] 134)).alloc (.cells #[.pointer (some ⟨w.heap.size + 1 + 1 + 1, 0, none⟩)] 130)) (w.heap.size + 1 + 1 + 1 + 1) [.pointer (some ⟨w.heap.size + 1 + 1 + 1, 0, none⟩)] 130 := Blk.at _ _ 130 _ (by simp)
  have hsz5 : (((((w.alloc zmsg).alloc zmsg).alloc (.cells #[.string S, i64 0, i64 0] 156)).alloc (.cells #[.pointer (some ⟨w.heap.size + 1 + 1, 0, none⟩)] 134)).alloc (.cells #[.pointer (some ⟨w.heap.size + 1 + 1 + 1, 0, none⟩)] 130)).heap.size = w.heap.size + 5 := by simp
  simp only [zmsg, mcells] at hE5 b0 b1 b2 b3 b4 hsz5
  revert hE5 b0 b1 b2 b3 b4 hsz5
  generalize hN : w.heap.size = N
  generalize hW : World.alloc _ (.cells #[.pointer (some ⟨N + 1 + 1 + 1, 0, none⟩)] 130) = W5
  clear hW
  intro hE5 b0 b1 b2 b3 b4 hsz5
  have e6 : Ext W5 (W5.alloc (.cells #[i64 0] 23)) := by (refine Mod.to_ext (S := []) ?_ (by simp); repeat (first | (with_reducible exact Mod.refl _ _) | (with_reducible assumption) | (with_reducible refine Mod.alloc ?_ _) | (with_reducible refine Mod.drew ?_) | (with_reducible refine Mod.drewN ?_ _)))
  have b5 : Blk (W5.alloc (.cells #[i64 0] 23)) W5.heap.size [i64 0] 23 := Blk.new W5 [i64 0] 23
  have hS : StR (N + 1 + 1 + 1) (N + 1 + 1) S (W5.alloc (.cells #[i64 0] 23)) [N + 1 + 1 + 1, N + 1 + 1] (m.enc ++ []) := ⟨⟨[], b3.ext e6, ⟨b2.ext e6, by simpa using hs⟩, by omega⟩, rfl⟩
  have R1 := walk_r (N + 1 + 1 + 1) (N + 1 + 1) S hSz (N + 1) m (W5.alloc (.cells #[i64 0] 23)) _ [] hS (b1.ext e6) (by simp) hm
  have R2 := rclosure (N + 1 + 1 + 1 + 1) _ _ _ _ ((b4.ext e6).read.1 0) R1
  have R3 := safely_r _ _ W5 _ R2 (by
    rintro w' ⟨own', v, _, _, _, _, hM, _⟩
    exact b5.mod hM (by simp; omega))
  have H0 := Lib.hid b0
  have H4 := Lib.hid b4
  have HE5 := Lib.hid hE5
  have HE6 := Lib.hid e6
  clear R1 R2 hS e6 b5 b0 b1 b2 b3 b4 hE5
  refine R3.mono ?_
  rintro e w2 ⟨rfl, w1, ⟨own', v, hSt, hB, hSl, hSq, hM, hO⟩, rfl⟩
  obtain ⟨⟨pre, hr⟩, _⟩ := hSt
  have hl1 := hM.size
  simp only [World.size_alloc] at hl1
  have k0 := ((H0.out.ext HE6.out).mod hM (by simp; omega)).set_other ⟨W5.heap.size, 0, none⟩ (i64 0) (by simp; omega)
  have k1 := hB.set_other ⟨W5.heap.size, 0, none⟩ (i64 0) (by simp; omega)
  have k3 := hr.blk.set_other ⟨W5.heap.size, 0, none⟩ (i64 0) (by simp; omega)
  have k4 := ((H4.out.ext HE6.out).mod hM (by simp; omega)).set_other ⟨W5.heap.size, 0, none⟩ (i64 0) (by simp; omega)
  have ki : InIs (w1.setCell ⟨W5.heap.size, 0, none⟩ (i64 0)) (N + 1 + 1) S pre [] := ⟨hr.inn.1.set_other ⟨W5.heap.size, 0, none⟩ (i64 0) (by simp; omega), hr.inn.2⟩
  have hE7 : Ext w (w1.setCell ⟨W5.heap.size, 0, none⟩ (i64 0)) := by
    have m1 : Mod [] w w1 := ((Mod.of_ext HE5.out).ext HE6.out).step hM (by simp; omega)
    exact (m1.setCell (by right; simp; omega) _).to_ext (by simp)
  have HQN := Lib.hid (show ∀ q, v.ownBlock = some q → q ≠ N from by intro q hq; have := hSq q hq; simp at this; omega)
  have hSl2 : Sl (w1.setCell ⟨W5.heap.size, 0, none⟩ (i64 0)) v (ints m.owners) := hSl.set_other _ _ (by intro q hq; have := hSq q hq; simp at this; simp; omega)
  have hcs : (m.cells v).toArray.size = 22 ∧ (m.cells v).toArray.all (·.oneCell') = true := by
    have ho : v.oneCell' = true := by
      rcases hSl2 with ⟨_, e⟩ | ⟨_, b, off, cap, e, _⟩ <;> rw [e] <;> rfl
    exact cells_ok m v ho
  obtain ⟨C, hC⟩ : ∃ C, C = (m.cells v).toArray := ⟨_, rfl⟩
  rw [← hC] at hcs
  have hk1 : (w1.setCell ⟨W5.heap.size, 0, none⟩ (i64 0)).heap[N + 1]? = some (.cells C 40 (0, 0)) := by rw [hC]; exact k1
  generalize w1.setCell ⟨W5.heap.size, 0, none⟩ (i64 0) = W at *
  obtain ⟨c3, f3⟩ := k3.read
  obtain ⟨c4, f4⟩ := k4.read
  have K0 := Lib.hid k0
  have K1 := Lib.hid hk1
  have KI := Lib.hid ki
  have HE7 := Lib.hid hE7
  have HSl := Lib.hid hSl2
  have HC := Lib.hid hC
  have HCS := Lib.hid hcs
  clear k0 k1 hk1 k3 k4 ki hE7 hSl2 hC hcs hr hB hSl hM hO R3
  go_wp2_with fail
  refine (end_calls' (N + 1 + 1) S pre W KI.out hSz).mono ?_
  rintro e w3 ⟨rfl, hE8⟩
  have k0 := K0.out.ext hE8
  have hlt1 : N + 1 < W.heap.size := lt_of_block K1.out
  have k1 : w3.heap[N + 1]? = some (.cells C 40 (0, 0)) := (hE8.block _ hlt1).trans K1.out
  have K0' := Lib.hid (show w3.heap[N]? = some (.cells (mcells 0 0 0 0 0 0 (.slice none 0 0) (.slice none 0 0)).toArray 40 (0, 0)) from k0)
  have K1' := Lib.hid k1
  have HE8 := Lib.hid hE8
  have hi : (Tryz.prog.info? 40).map (·.size) = some C.size := by rw [HCS.out.1]; kernel_rfl
  have HI := Lib.hid hi
  have hr0 : (w3.setRow N C).heap[N]? = some (.cells C 40 (0, 0)) := setRow_heap w3 N _ C 40 (0, 0) k0
  have hld := run_loadVar_row (P := Tryz.prog) (w3.setRow N C) N 40 40 C (0, 0) _ hr0 Tryz.underlying40 rfl hi
  have HLD := Lib.hid hld
  clear k0 k1 hE8 c3 f3 c4 f4 hi hr0 hld
  go_wp2_with (first | (with_reducible refine wpList_load_row rfl 40 (.tmp 4) rfl (N + 1) rfl 40 C (0, 0) _ K1'.out Tryz.underlying40 rfl HI.out ?_) | (refine wpList_store_row rfl 40 (.tmp 2) (.tmp 27) rfl N C rfl rfl 40 _ K0'.out HI.out (by rw [HCS.out.1]; rfl) HCS.out.2 ?_))
  refine bodyPost_ret (v := .tuple #[.agg C, i64 0]) (by simp [results, Tryz.results56, HLD.out, asAddr]) rfl ?_
  unfold ReadPost
  refine ⟨v, by rw [HC.out], ?_, ?_⟩
  · exact (HSl.out.ext HE8.out).mod (S := [N]) (Mod.setRow (Mod.refl _ _) (by simp) C) (by intro q hq; simpa using HQN.out q hq)
  · have m1 : Mod [N] w w3 := (Mod.of_ext HE7.out).ext HE8.out
    exact (Mod.setRow m1 (by simp) C).to_ext (by simp; omega)
end Go.Proofs.YtchmhkdnegngdaaGreat
