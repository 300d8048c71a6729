/- msg.Read. msg.Same at two messages alike. msg.Bytes. -/
import Derived.Test.YtchmhkdnegngdaaGreatGWx
import Derived.Test.YtchmhkdnegngdaaGreatGTb
set_option linter.unusedVariables false
set_option linter.unusedSimpArgs false
namespace Go.Proofs.YtchmhkdnegngdaaGreat
open Go.RowKit

section
theorem Of_calls (S : ByteArray) (w : World) :
    Calls Tryz.prog 70 #[.string S] w (fun e w' => e = .returned (.pointer (some ⟨w.heap.size, 0, none⟩)) ∧ w.alloc (.cells #[.string S, i64 0, i64 0] 156) = w') := by
  go_enter Tryz.func70, Tryz.ntmps70
  go_wp2_with fail
  go_ret
  exact ⟨rfl, rfl⟩

theorem Mod.setRow {S : List Nat} {a b : World} (h : Mod S a b) {g : Nat} (hg : g ∈ S ∨ a.heap.size ≤ g) (C : Array Value) : Mod S a (b.setRow g C) :=
  ⟨h.os, h.tape, h.output, by rw [size_setRow]; exact h.size,
   fun k hk hs => (setRow_other b g k C (fun e => by subst e; exact hg.elim hs (fun h => by omega))).trans (h.block k hk hs)⟩

theorem Sl.mod {S : List Nat} {w w' : World} {o : Value} {xs : List Int} (h : Sl w o xs) (m : Mod S w w') (hs : ∀ q, o.ownBlock = some q → q ∉ S) : Sl w' o xs := by
  rcases h with h | ⟨h0, b, off, cap, rfl, hI⟩
  · exact .inl h
  · exact .inr ⟨h0, b, off, cap, rfl, hI.mod m (hs b rfl)⟩
theorem Sl.ext {w w' : World} {o : Value} {xs : List Int} (h : Sl w o xs) (m : Ext w w') : Sl w' o xs := h.mod (Mod.of_ext (S := []) m) (by simp)
theorem Sl.set_other {w : World} {o : Value} {xs : List Int} (h : Sl w o xs) (a : Addr) (u : Value) (hs : ∀ q, o.ownBlock = some q → q ≠ a.block) : Sl (w.setCell a u) o xs :=
  h.mod (S := [a.block]) (by repeat (first | (with_reducible exact Mod.refl _ _) | (with_reducible assumption) | (with_reducible refine Mod.setCell ?_ (by simp) _) | (with_reducible refine Mod.alloc ?_ _) | (with_reducible refine Mod.drew ?_) | (with_reducible refine Mod.drewN ?_ _))) (by simpa using hs)

theorem cells_ok (m : Ms) (o : Value) (ho : o.oneCell' = true) : (m.cells o).toArray.size = 22 ∧ (m.cells o).toArray.all (·.oneCell') = true := by
  have h : ∀ k mv part dst ep n, (mcells k mv part dst ep n o (.slice none 0 0)).toArray.all (·.oneCell') = true := by
    intro k mv part dst ep n
    rw [Array.all_eq_true_iff_forall_mem]
    intro x hx
    simp only [mcells, List.mem_toArray, List.mem_cons, List.not_mem_nil, or_false] at hx
    rcases hx with h | h | h | h | h | h | h | h | h | h | h | h | h | h | h | h | h | h | h | h | h | h <;> first | (rw [h]; rfl) | (rw [h]; exact ho)
  cases m <;> exact ⟨rfl, h _ _ _ _ _ _⟩

abbrev zmsg : Obj := .cells (mcells 0 0 0 0 0 0 (.slice none 0 0) (.slice none 0 0)).toArray 40

/-- what Read leaves -/
def ReadPost (m : Ms) (w : World) (e : Ending) (w' : World) : Prop :=
  ∃ o, e = .returned (.tuple #[.agg (m.cells o).toArray, i64 0]) ∧ Sl w' o (ints m.owners) ∧ Ext w w'

set_option maxRecDepth 100000 in
set_option maxHeartbeats 800000 in
theorem Read_calls (S : ByteArray) (m : Ms) (w : World) (hm : m.ok) (hs : S.data.toList = m.enc) (hSz : S.size ≤ 100000) :
    Calls Tryz.prog 56 #[.string S] w (ReadPost m w) := by
  have hmf : ∀ (fn : Fn) (first cap : Array Value) (w : World), (Instr.makeFunc fn first cap).run Tryz.prog w = .ok (.func fn first cap) w := fun _ _ _ _ => rfl
  go_enter Tryz.func56, Tryz.ntmps56
  go_wp2_with fail
  refine (Of_calls S _).mono ?_
  rintro e w' ⟨rfl, rfl⟩
  go_wp2_with fail
  have hE5 : Ext w (((((w.alloc zmsg).alloc zmsg).alloc (.cells #[.string S, i64 0, i64 0] 156)).alloc (.cells #[.pointer (some ⟨w.heap.size + 1 + 1, 0, none⟩)] 134)).alloc (.cells #[.pointer (some ⟨w.heap.size + 1 + 1 + 1, 0, none⟩)] 130)) := by (refine Mod.to_ext (S := []) ?_ (by simp); repeat (first | (with_reducible exact Mod.refl _ _) | (with_reducible assumption) | (with_reducible refine Mod.alloc ?_ _) | (with_reducible refine Mod.drew ?_) | (with_reducible refine Mod.drewN ?_ _)))
  have b0 : Blk (((((w.alloc zmsg).alloc zmsg).alloc (.cells #[.string S, i64 0, i64 0] 156)).alloc (.cells #[.pointer (some ⟨w.heap.size + 1 + 1, 0, none⟩)] 134)).alloc (.cells #[.pointer (some ⟨w.heap.size + 1 + 1 + 1, 0, none⟩)] 130)) w.heap.size (mcells 0 0 0 0 0 0 (.slice none 0 0) (.slice none 0 0)) 40 := ((((Blk.new w _ 40).old _).old _).old _).old _
  have b1 : Blk (((((w.alloc zmsg).alloc zmsg).alloc (.cells #[.string S, i64 0, i64 0] 156)).alloc (.cells #[.pointer (some ⟨w.heap.size + 1 + 1, 0, none⟩)] 134)).alloc (.cells #[.pointer (some ⟨w.heap.size + 1 + 1 + 1, 0, none⟩)] 130)) (w.heap.size + 1) (mcells 0 0 0 0 0 0 (.slice none 0 0) (.slice none 0 0)) 40 := (((Blk.at _ _ 40 _ (by simp)).old _).old _).old _
  have b2 : Blk (((((w.alloc zmsg).alloc zmsg).alloc (.cells #[.string S, i64 0, i64 0] 156)).alloc (.cells #[.pointer (some ⟨w.heap.size + 1 + 1, 0, none⟩)] 134)).alloc (.cells #[.pointer (some ⟨w.heap.size + 1 + 1 + 1, 0, none⟩)] 130)) (w.heap.size + 1 + 1) [.string S, i64 0, i64 0] 156 := ((Blk.at _ _ 156 _ (by simp)).old _).old _
  have b3 : Blk (((((w.alloc zmsg).alloc zmsg).alloc (.cells #[.string S, i64 0, i64 0] 156)).alloc (.cells #[.pointer (some ⟨w.heap.size + 1 + 1, 0, none⟩)] 134)).alloc (.cells #[.pointer (some ⟨w.heap.size + 1 + 1 + 1, 0, none⟩)] 130)) (w.heap.size + 1 + 1 + 1) [.pointer (some ⟨w.heap.size + 1 + 1, 0, none⟩)] 134 := (Blk.at _ _ 134 _ (by simp)).old _
  have b4 : Blk (((((w.alloc zmsg).alloc zmsg).alloc (.cells #[.string S, i64 0, i64 0] 156)).alloc (.cells #[.pointer (some ⟨w.heap.size + 1 + 1, 0, none⟩)] 134)).alloc (.cells #[.pointer (some ⟨w.heap.size + 1 + 1 + 1, 0, none⟩)] 130)) (w.heap.size + 1 + 1 + 1 + 1) [.pointer (some ⟨w.heap.size + 1 + 1 + 1, 0, none⟩)] 130 := Blk.at _ _ 130 _ (by simp)
  have hsz5 : (((((w.alloc zmsg).alloc zmsg).alloc (.cells #[.string S, i64 0, i64 0] 156)).alloc (.cells #[.pointer (some ⟨w.heap.size + 1 + 1, 0, none⟩)] 134)).alloc (.cells #[.pointer (some ⟨w.heap.size + 1 + 1 + 1, 0, none⟩)] 130)).heap.size = w.heap.size + 5 := by simp
  simp only [zmsg, mcells] at hE5 b0 b1 b2 b3 b4 hsz5
  revert hE5 b0 b1 b2 b3 b4 hsz5
  generalize hN : w.heap.size = N
  generalize hW : World.alloc _ (.cells #[.pointer (some ⟨N + 1 + 1 + 1, 0, none⟩)] 130) = W5
  clear hW
  intro hE5 b0 b1 b2 b3 b4 hsz5
  have e6 : Ext W5 (W5.alloc (.cells #[i64 0] 23)) := by (refine Mod.to_ext (S := []) ?_ (by simp); repeat (first | (with_reducible exact Mod.refl _ _) | (with_reducible assumption) | (with_reducible refine Mod.alloc ?_ _) | (with_reducible refine Mod.drew ?_) | (with_reducible refine Mod.drewN ?_ _)))
  have b5 : Blk (W5.alloc (.cells #[i64 0] 23)) W5.heap.size [i64 0] 23 := Blk.new W5 [i64 0] 23
  have hS : StR (N + 1 + 1 + 1) (N + 1 + 1) S (W5.alloc (.cells #[i64 0] 23)) [N + 1 + 1 + 1, N + 1 + 1] (m.enc ++ []) := ⟨⟨[], b3.ext e6, ⟨b2.ext e6, by simpa using hs⟩, by omega⟩, rfl⟩
  have R1 := walk_r (N + 1 + 1 + 1) (N + 1 + 1) S hSz (N + 1) m (W5.alloc (.cells #[i64 0] 23)) _ [] hS (b1.ext e6) (by simp) hm
  have R2 := rclosure (N + 1 + 1 + 1 + 1) _ _ _ _ ((b4.ext e6).read.1 0) R1
  have R3 := safely_r _ _ W5 _ R2 (by
    rintro w' ⟨own', v, _, _, _, _, hM, _⟩
    exact b5.mod hM (by simp; omega))
  have H0 := Lib.hid b0
  have H4 := Lib.hid b4
  have HE5 := Lib.hid hE5
  have HE6 := Lib.hid e6
  clear R1 R2 hS e6 b5 b0 b1 b2 b3 b4 hE5
  refine R3.mono ?_
  rintro e w2 ⟨rfl, w1, ⟨own', v, hSt, hB, hSl, hSq, hM, hO⟩, rfl⟩
  obtain ⟨⟨pre, hr⟩, _⟩ := hSt
  have hl1 := hM.size
  simp only [World.size_alloc] at hl1
  have k0 := ((H0.out.ext HE6.out).mod hM (by simp; omega)).set_other ⟨W5.heap.size, 0, none⟩ (i64 0) (by simp; omega)
  have k1 := hB.set_other ⟨W5.heap.size, 0, none⟩ (i64 0) (by simp; omega)
  have k3 := hr.blk.set_other ⟨W5.heap.size, 0, none⟩ (i64 0) (by simp; omega)
  have k4 := ((H4.out.ext HE6.out).mod hM (by simp; omega)).set_other ⟨W5.heap.size, 0, none⟩ (i64 0) (by simp; omega)
  have ki : InIs (w1.setCell ⟨W5.heap.size, 0, none⟩ (i64 0)) (N + 1 + 1) S pre [] := ⟨hr.inn.1.set_other ⟨W5.heap.size, 0, none⟩ (i64 0) (by simp; omega), hr.inn.2⟩
  have hE7 : Ext w (w1.setCell ⟨W5.heap.size, 0, none⟩ (i64 0)) := by
    have m1 : Mod [] w w1 := ((Mod.of_ext HE5.out).ext HE6.out).step hM (by simp; omega)
    exact (m1.setCell (by right; simp; omega) _).to_ext (by simp)
  have HQN := Lib.hid (show ∀ q, v.ownBlock = some q → q ≠ N from by intro q hq; have := hSq q hq; simp at this; omega)
  have hSl2 : Sl (w1.setCell ⟨W5.heap.size, 0, none⟩ (i64 0)) v (ints m.owners) := hSl.set_other _ _ (by intro q hq; have := hSq q hq; simp at this; simp; omega)
  have hcs : (m.cells v).toArray.size = 22 ∧ (m.cells v).toArray.all (·.oneCell') = true := by
    have ho : v.oneCell' = true := by
      rcases hSl2 with ⟨_, e⟩ | ⟨_, b, off, cap, e, _⟩ <;> rw [e] <;> rfl
    exact cells_ok m v ho
  obtain ⟨C, hC⟩ : ∃ C, C = (m.cells v).toArray := ⟨_, rfl⟩
  rw [← hC] at hcs
  have hk1 : (w1.setCell ⟨W5.heap.size, 0, none⟩ (i64 0)).heap[N + 1]? = some (.cells C 40 (0, 0)) := by rw [hC]; exact k1
  generalize w1.setCell ⟨W5.heap.size, 0, none⟩ (i64 0) = W at *
  obtain ⟨c3, f3⟩ := k3.read
  obtain ⟨c4, f4⟩ := k4.read
  have K0 := Lib.hid k0
  have K1 := Lib.hid hk1
  have KI := Lib.hid ki
  have HE7 := Lib.hid hE7
  have HSl := Lib.hid hSl2
  have HC := Lib.hid hC
  have HCS := Lib.hid hcs
  clear k0 k1 hk1 k3 k4 ki hE7 hSl2 hC hcs hr hB hSl hM hO R3
  go_wp2_with fail
  refine (end_calls' (N + 1 + 1) S pre W KI.out hSz).mono ?_
  rintro e w3 ⟨rfl, hE8⟩
  have k0 := K0.out.ext hE8
  have hlt1 : N + 1 < W.heap.size := lt_of_block K1.out
  have k1 : w3.heap[N + 1]? = some (.cells C 40 (0, 0)) := (hE8.block _ hlt1).trans K1.out
  have K0' := Lib.hid (show w3.heap[N]? = some (.cells (mcells 0 0 0 0 0 0 (.slice none 0 0) (.slice none 0 0)).toArray 40 (0, 0)) from k0)
  have K1' := Lib.hid k1
  have HE8 := Lib.hid hE8
  have hi : (Tryz.prog.info? 40).map (·.size) = some C.size := by rw [HCS.out.1]; kernel_rfl
  have HI := Lib.hid hi
  have hr0 : (w3.setRow N C).heap[N]? = some (.cells C 40 (0, 0)) := setRow_heap w3 N _ C 40 (0, 0) k0
  have hld := run_loadVar_row (P := Tryz.prog) (w3.setRow N C) N 40 40 C (0, 0) _ hr0 Tryz.underlying40 rfl hi
  have HLD := Lib.hid hld
  clear k0 k1 hE8 c3 f3 c4 f4 hi hr0 hld
  go_wp2_with (first | (with_reducible refine wpList_load_row rfl 40 (.tmp 4) rfl (N + 1) rfl 40 C (0, 0) _ K1'.out Tryz.underlying40 rfl HI.out ?_) | (refine wpList_store_row rfl 40 (.tmp 2) (.tmp 27) rfl N C rfl rfl 40 _ K0'.out HI.out (by rw [HCS.out.1]; rfl) HCS.out.2 ?_))
  refine bodyPost_ret (v := .tuple #[.agg C, i64 0]) (by simp [results, Tryz.results56, HLD.out, asAddr]) rfl ?_
  unfold ReadPost
  refine ⟨v, by rw [HC.out], ?_, ?_⟩
  · exact (HSl.out.ext HE8.out).mod (S := [N]) (Mod.setRow (Mod.refl _ _) (by simp) C) (by intro q hq; simpa using HQN.out q hq)
  · have m1 : Mod [N] w w3 := (Mod.of_ext HE7.out).ext HE8.out
    exact (Mod.setRow m1 (by simp) C).to_ext (by simp; omega)
end

section
abbrev zitem : Value := .agg #[i64 0, i64 0, i64 0, u8 0, .string ⟨#[]⟩, i64 0, i64 0, i64 0]
theorem eq38 (w : World) : (binOp .eql 38 zitem zitem).run Tryz.prog w = .ok (.bool true) w := by kernel_rfl

theorem equal_nil (w : World) : Calls Tryz.prog 54 #[.slice none 0 0, .slice none 0 0] w fun e w' => e = .returned (.bool true) ∧ w = w' := by
  go_enter Tryz.func54, Tryz.ntmps54
  go_wp2_with fail
  go_loopw [13] (fun i wr => i = i64 0 ∧ wr = w) (fun _ _ => 0)
  case atStart => exact ⟨rfl, rfl⟩
  case round =>
    obtain ⟨rfl, rfl⟩ := hrel
    go_wp2_with fail
    go_ret
    exact ⟨rfl, rfl⟩

theorem equal_sl (o1 o2 : Value) (xs : List Int) (w : World) (h1 : Sl w o1 xs) (h2 : Sl w o2 xs) (hl : xs.length ≤ 4096) :
    Calls Tryz.prog 54 #[o1, o2] w fun e w' => e = .returned (.bool true) ∧ Ext w w' := by
  rcases h1 with ⟨h0, rfl⟩ | ⟨h0, b1, p1, k1, rfl, i1⟩
  · rcases h2 with ⟨_, rfl⟩ | ⟨h3, _⟩
    · exact (equal_nil w).mono (fun e w' h => ⟨h.1, by rw [← h.2]; exact Below.refl _ _⟩)
    · exact (h3 h0).elim
  · rcases h2 with ⟨h3, _⟩ | ⟨_, b2, p2, k2, rfl, i2⟩
    · exact (h0 h3).elim
    · refine (equal_calls b1 p1 k1 b2 p2 k2 xs xs w hl hl i1 i2).mono ?_
      rintro e w' ⟨rfl, hE⟩
      exact ⟨by simp [eqB], hE⟩

set_option maxRecDepth 100000 in
set_option maxHeartbeats 1600000 in
theorem same_calls (m : Ms) (o1 o2 : Value) (w : World) (h1 : Sl w o1 (ints m.owners)) (h2 : Sl w o2 (ints m.owners)) (hl : m.owners.length ≤ 64) :
    Calls Tryz.prog 110 #[.agg (m.cells o1).toArray, .agg (m.cells o2).toArray] w fun e w' => e = .returned (.bool true) ∧ Ext w w' := by
  obtain ⟨k, mv, part, dst, ep, n, hcells⟩ : ∃ k mv part dst ep n, ∀ o, m.cells o = mcells k mv part dst ep n o (.slice none 0 0) := by
    cases m <;> exact ⟨_, _, _, _, _, _, fun _ => rfl⟩
  rw [hcells, hcells]
  have hE2 : Ext w ((w.alloc (.cells (mcells k mv part dst ep n o1 (.slice none 0 0)).toArray 40)).alloc (.cells (mcells k mv part dst ep n o2 (.slice none 0 0)).toArray 40)) := by (refine Mod.to_ext (S := []) ?_ (by simp); repeat (first | (with_reducible exact Mod.refl _ _) | (with_reducible assumption) | (with_reducible refine Mod.alloc ?_ _) | (with_reducible refine Mod.drew ?_) | (with_reducible refine Mod.drewN ?_ _)))
  have b1 : Blk ((w.alloc (.cells (mcells k mv part dst ep n o1 (.slice none 0 0)).toArray 40)).alloc (.cells (mcells k mv part dst ep n o2 (.slice none 0 0)).toArray 40)) w.heap.size (mcells k mv part dst ep n o1 (.slice none 0 0)) 40 := (Blk.new w _ 40).old _
  have b2 : Blk ((w.alloc (.cells (mcells k mv part dst ep n o1 (.slice none 0 0)).toArray 40)).alloc (.cells (mcells k mv part dst ep n o2 (.slice none 0 0)).toArray 40)) (w.heap.size + 1) (mcells k mv part dst ep n o2 (.slice none 0 0)) 40 := Blk.at _ _ 40 _ (by simp)
  have s1 := h1.ext hE2
  have s2 := h2.ext hE2
  have R := fun w' => fun (hw : Ext ((w.alloc (.cells (mcells k mv part dst ep n o1 (.slice none 0 0)).toArray 40)).alloc (.cells (mcells k mv part dst ep n o2 (.slice none 0 0)).toArray 40)) w') => equal_sl o1 o2 (ints m.owners) w' (s1.ext hw) (s2.ext hw) (by rw [ints_len]; omega)
  have HR := Lib.hid R
  have HE := Lib.hid hE2
  clear R s1 s2 hE2 h1 h2 hcells
  unfold mcells
  simp only [mcells] at b1 b2 HR HE
  have hq := eq38
  go_enter Tryz.func110, Tryz.ntmps110
  go_wp2_with fail
  revert b1 b2 HR HE
  generalize hN : w.heap.size = N
  generalize hW : World.alloc _ (.cells #[u8 k, i64 mv, i64 part, i64 dst, i64 0, i64 0, i64 0, u64 0, i64 0, i64 0, i64 0, i64 0, u8 0, .string ⟨#[]⟩, i64 0, i64 0, i64 0, i64 ep, i64 n, o2, .slice none 0 0, .string ⟨#[]⟩] 40) = W
  clear hW
  intro b1 b2 HR HE
  refine (equal_nil W).mono ?_
  rintro e w' ⟨rfl, rfl⟩
  obtain ⟨c1, f1⟩ := b1.read
  obtain ⟨c2, f2⟩ := b2.read
  have H1 := Lib.hid b1
  have H2 := Lib.hid b2
  clear b1 b2
  have R := HR.out W (Below.refl _ _)
  go_wp2_with fail
  refine R.mono ?_
  rintro e w3 ⟨rfl, hE3⟩
  obtain ⟨d1, g1⟩ := (H1.out.ext hE3).read
  obtain ⟨d2, g2⟩ := (H2.out.ext hE3).read
  have HE3 := Lib.hid hE3
  clear c1 f1 c2 f2 R hE3
  go_wp2_with fail
  go_ret
  exact ⟨rfl, HE.out.trans HE3.out⟩
end

section
/-- what Bytes leaves -/
def BytesPost (m : Ms) (w : World) (e : Ending) (w' : World) : Prop :=
  e = .returned (.tuple #[.string ⟨m.enc.toArray⟩, i64 0]) ∧ Ext w w'

theorem enc_ne (m : Ms) : m.enc ≠ [] := by cases m <;> simp [Ms.enc]

theorem tenc_len {ep n : Nat} {xs : List Nat} (h1 : small ep) (h2 : small n) (h3 : xs.length ≤ 64) (h4 : ∀ x ∈ xs, small x) : (tenc ep n xs).length ≤ 335 := by
  have l1 := vb_len5 h1
  have l2 := vb_len5 h2
  have l3 := vb_len5 (x := xs.length) (by unfold small; omega)
  have l4 := flat_len h4
  simp only [tenc, List.length_append]; omega

theorem enc_len (m : Ms) (h : m.ok) : m.enc.length ≤ 400 := by
  cases m with
  | prep mv part dst =>
    obtain ⟨h1, h2, h3⟩ := h
    have := vb_len5 h1; have := vb_len5 h2; have := vb_len5 h3
    simp only [Ms.enc, List.length_cons, List.length_append]; omega
  | abort mv part =>
    obtain ⟨h1, h2⟩ := h
    have := vb_len5 h1; have := vb_len5 h2
    simp only [Ms.enc, List.length_cons, List.length_append]; omega
  | commit mv part ep n xs =>
    obtain ⟨h1, h2, h3, h4, h5, h6, h7⟩ := h
    have := vb_len5 h1; have := vb_len5 h2; have := tenc_len h3 h4 h6 h7
    simp only [Ms.enc, List.length_cons, List.length_append]; omega
  | table ep n xs =>
    obtain ⟨h3, h4, h5, h6, h7⟩ := h
    have := tenc_len h3 h4 h6 h7
    simp only [Ms.enc, List.length_cons]; omega

theorem ok_owners (m : Ms) (h : m.ok) : m.owners.length ≤ 64 := by
  cases m with
  | prep mv part dst => simp [Ms.owners]
  | abort mv part => simp [Ms.owners]
  | commit mv part ep n xs => exact h.2.2.2.2.2.1
  | table ep n xs => exact h.2.2.2.1

theorem Sl.one {w : World} {o : Value} {xs : List Int} (h : Sl w o xs) : o.oneCell' = true := by
  rcases h with ⟨_, e⟩ | ⟨_, b, off, cap, e, _⟩ <;> rw [e] <;> rfl

theorem Sl.lt {w : World} {o : Value} {xs : List Int} (h : Sl w o xs) {q : Nat} (hq : o.ownBlock = some q) : q < w.heap.size := by
  rcases h with ⟨_, e⟩ | ⟨h0, b, off, cap, e, hI⟩
  · rw [e] at hq; cases hq
  · rw [e] at hq
    have e : b = q := by simpa [Value.ownBlock] using hq
    have h2 : b < w.heap.size := World.block_lt_of_cell? w _ (hI.at0 (i := 0) (List.length_pos_iff.2 h0))
    omega

set_option maxRecDepth 100000 in
set_option maxHeartbeats 1600000 in
theorem Bytes_calls (m : Ms) (o : Value) (w : World) (hm : m.ok) (h : Sl w o (ints m.owners)) :
    Calls Tryz.prog 79 #[.agg (m.cells o).toArray] w (BytesPost m w) := by
  have hmf : ∀ (fn : Fn) (first cap : Array Value) (w : World), (Instr.makeFunc fn first cap).run Tryz.prog w = .ok (.func fn first cap) w := fun _ _ _ _ => rfl
  have hcs := cells_ok m o h.one
  obtain ⟨C, hC⟩ : ∃ C, C = (m.cells o).toArray := ⟨_, rfl⟩
  rw [← hC] at hcs ⊢
  have hi : (Tryz.prog.info? 40).map (·.size) = some C.size := by rw [hcs.1]; kernel_rfl
  have HI := Lib.hid hi
  have HC := Lib.hid hC
  have HCS := Lib.hid hcs
  clear hC hcs hi
  go_enter Tryz.func79, Tryz.ntmps79
  have f1 : ((w.alloc (.cells C 40)).alloc (.cells #[.slice none 0 0] 192)).heap[w.heap.size]? = some (.cells C 40 (0, 0)) := (heap_alloc_old _ _ (by simp)).trans (heap_alloc_new w _)
  have f2 : (((w.alloc (.cells C 40)).alloc (.cells #[.slice none 0 0] 192)).alloc zmsg).heap[w.heap.size + 1 + 1]? = some zmsg := by
    have := heap_alloc_new ((w.alloc (.cells C 40)).alloc (.cells #[.slice none 0 0] 192)) zmsg
    simpa only [World.size_alloc] using this
  have F1 := Lib.hid f1
  have F2 := Lib.hid f2
  clear f1 f2
  go_wp2_with (first | (refine wpList_load_row rfl 40 (.tmp 1) rfl w.heap.size rfl 40 C (0, 0) _ F1.out Tryz.underlying40 rfl HI.out ?_) | (refine wpList_store_row rfl 40 (.tmp 5) (.tmp 10) rfl (w.heap.size + 1 + 1) C rfl rfl 40 _ F2.out HI.out (by rw [HCS.out.1]; rfl) HCS.out.2 ?_))
  have hE3 : Ext w ((((w.alloc (.cells C 40)).alloc (.cells #[.slice none 0 0] 192)).alloc zmsg).setRow (w.heap.size + 1 + 1) C) := by
    have m1 : Mod [] w (((w.alloc (.cells C 40)).alloc (.cells #[.slice none 0 0] 192)).alloc zmsg) := by repeat (first | (with_reducible exact Mod.refl _ _) | (with_reducible assumption) | (with_reducible refine Mod.setCell ?_ (by simp) _) | (with_reducible refine Mod.alloc ?_ _) | (with_reducible refine Mod.drew ?_) | (with_reducible refine Mod.drewN ?_ _))
    exact (Mod.setRow m1 (by right; omega) C).to_ext (by simp)
  have b0 : ((((w.alloc (.cells C 40)).alloc (.cells #[.slice none 0 0] 192)).alloc zmsg).setRow (w.heap.size + 1 + 1) C).heap[w.heap.size]? = some (.cells C 40 (0, 0)) :=
    (setRow_other _ _ _ C (by omega)).trans ((heap_alloc_old _ _ (by simp; omega)).trans ((heap_alloc_old _ _ (by simp)).trans (heap_alloc_new w _)))
  have b1 : ((((w.alloc (.cells C 40)).alloc (.cells #[.slice none 0 0] 192)).alloc zmsg).setRow (w.heap.size + 1 + 1) C).heap[w.heap.size + 1]? = some (.cells [.slice none 0 0].toArray 192 (0, 0)) :=
    (setRow_other _ _ _ C (by omega)).trans ((heap_alloc_old _ _ (by simp)).trans (by have := heap_alloc_new (w.alloc (.cells C 40)) (.cells #[.slice none 0 0] 192); simpa only [World.size_alloc] using this))
  have b2 : ((((w.alloc (.cells C 40)).alloc (.cells #[.slice none 0 0] 192)).alloc zmsg).setRow (w.heap.size + 1 + 1) C).heap[w.heap.size + 1 + 1]? = some (.cells C 40 (0, 0)) := setRow_heap _ _ _ C 40 (0, 0) F2.out
  have hsz : ((((w.alloc (.cells C 40)).alloc (.cells #[.slice none 0 0] 192)).alloc zmsg).setRow (w.heap.size + 1 + 1) C).heap.size = w.heap.size + 3 := by simp
  clear F1 F2
  simp only [zmsg, mcells] at hE3 b0 b1 b2 hsz
  have hlt : ∀ q, o.ownBlock = some q → q < w.heap.size := fun q hq => h.lt hq
  have h3 := h.ext hE3
  revert hE3 b0 b1 b2 hsz h3 hlt
  generalize hN : w.heap.size = N
  generalize hW : World.setRow _ (N + 1 + 1) C = W3
  clear hW
  intro hE3 b0 b1 b2 hsz hlt h3
  have e4 : Ext W3 (W3.alloc (.cells #[i64 0] 23)) := by (refine Mod.to_ext (S := []) ?_ (by simp); repeat (first | (with_reducible exact Mod.refl _ _) | (with_reducible assumption) | (with_reducible refine Mod.alloc ?_ _) | (with_reducible refine Mod.drew ?_) | (with_reducible refine Mod.drewN ?_ _)))
  have b5 : Blk (W3.alloc (.cells #[i64 0] 23)) W3.heap.size [i64 0] 23 := Blk.new W3 [i64 0] 23
  have b1' : Blk W3 (N + 1) [.slice none 0 0] 192 := b1
  have b2' : Blk W3 (N + 1 + 1) (m.cells o) 40 := by unfold Blk; rw [← HC.out]; exact b2
  have hS : StW (N + 1) 192 (W3.alloc (.cells #[i64 0] 23)) [N + 1] [] := ⟨.slice none 0 0, ⟨b1'.ext e4, Row.nil _, by simp [Value.ownBlock]⟩, rfl⟩
  have R1 := walk_w (N + 1) 192 (N + 1 + 1) m o (W3.alloc (.cells #[i64 0] 23)) _ hS (b2'.ext e4) (by simp) hm (by
    intro h0
    rcases h3.ext e4 with ⟨hh, _⟩ | ⟨_, b, off, cap, rfl, hI⟩
    · exact (h0 (by simpa [ints] using hh)).elim
    · have := hlt b rfl
      exact ⟨b, off, cap, by rw [ints_len], hI, by simp; omega, by omega⟩)
  have R2 := wclosure _ _ _ _ R1
  have R3 := safely_w _ _ W3 _ R2 (by
    rintro w' ⟨own', v, _, _, hM, _⟩
    exact b5.mod hM (by simp; omega))
  have HE3 := Lib.hid hE3
  have B0 := Lib.hid b0
  have HE4 := Lib.hid e4
  have H3 := Lib.hid h3
  have HN := Lib.hid hN
  have HLT := Lib.hid hlt
  clear R1 R2 hS b0 b1 b2 b1' b2' hE3 e4 b5 h3 h hN hlt
  refine R3.mono ?_
  rintro e w5 ⟨rfl, w4, ⟨own', v, ⟨v2, hSt, hown⟩, hB, hM, hO⟩, rfl⟩
  have hl1 := hM.size
  simp only [World.size_alloc] at hl1
  have k0 : (w4.setCell ⟨W3.heap.size, 0, none⟩ (i64 0)).heap[N]? = some (.cells C 40 (0, 0)) :=
    (Below.heap_setCell w4 ⟨W3.heap.size, 0, none⟩ (i64 0) N (by simp; omega)).trans ((hM.block N (by simp; omega) (by simp; omega)).trans ((HE4.out.block N (by omega)).trans B0.out))
  have k1 : WIs (w4.setCell ⟨W3.heap.size, 0, none⟩ (i64 0)) (N + 1) 192 v2 m.enc := hSt.mod (S := [W3.heap.size]) (by repeat (first | (with_reducible exact Mod.refl _ _) | (with_reducible assumption) | (with_reducible refine Mod.setCell ?_ (by simp) _) | (with_reducible refine Mod.alloc ?_ _) | (with_reducible refine Mod.drew ?_) | (with_reducible refine Mod.drewN ?_ _))) (by simp; omega) (by
    intro q hq hh
    simp at hh
    have := hO q (by rw [hown]; simp [hq])
    simp at this; omega)
  have k3 : Sl (w4.setCell ⟨W3.heap.size, 0, none⟩ (i64 0)) o (ints m.owners) := ((H3.out.ext HE4.out).mod hM (by intro q hq; have := HLT.out q hq; simp; omega)).set_other _ _ (by intro q hq; have := HLT.out q hq; simp; omega)
  have hE5 : Ext w (w4.setCell ⟨W3.heap.size, 0, none⟩ (i64 0)) := by
    have m1 : Mod [] w w4 := ((Mod.of_ext HE3.out).ext HE4.out).step hM (by have := HN.out; simp; omega)
    exact (m1.setCell (by right; have := HN.out; simp; omega) _).to_ext (by simp)
  generalize w4.setCell ⟨W3.heap.size, 0, none⟩ (i64 0) = W5 at *
  have RS := string_calls (N + 1) 192 v2 m.enc W5 k1 (enc_ne m)
  have HE5 := Lib.hid hE5
  have K0 := Lib.hid k0
  have K3 := Lib.hid k3
  clear k0 k1 k3 hE5 hSt hown hB hM hO R3
  go_wp2_with fail
  refine RS.mono ?_
  rintro e w' ⟨rfl, rfl⟩
  go_wp2_with fail
  refine (Read_calls ⟨m.enc.toArray⟩ m W5 hm rfl (by have := enc_len m hm; simp [ByteArray.size]; omega)).mono ?_
  intro e w6 q0
  unfold ReadPost at q0
  obtain ⟨o2, rfl, hS2, hE6⟩ := q0
  have hds := cells_ok m o2 hS2.one
  obtain ⟨D, hD⟩ : ∃ D, D = (m.cells o2).toArray := ⟨_, rfl⟩
  rw [← hD] at hds
  rw [← hD]
  have hlt5 : N < W5.heap.size := lt_of_block K0.out
  have k0 : w6.heap[N]? = some (.cells C 40 (0, 0)) := (hE6.block N hlt5).trans K0.out
  have hid : (Tryz.prog.info? 40).map (·.size) = some D.size := by rw [hds.1]; kernel_rfl
  have hlt6 : N < w6.heap.size := lt_of_block k0
  have g0 : ((w6.alloc zmsg).setRow w6.heap.size D).heap[w6.heap.size]? = some (.cells D 40 (0, 0)) := setRow_heap _ _ _ D 40 (0, 0) (heap_alloc_new w6 zmsg)
  have g1 : ((w6.alloc zmsg).setRow w6.heap.size D).heap[N]? = some (.cells C 40 (0, 0)) := (setRow_other _ _ _ D (by omega)).trans ((heap_alloc_old _ _ hlt6).trans k0)
  have g2 : (w6.alloc zmsg).heap[w6.heap.size]? = some zmsg := heap_alloc_new _ _
  have e7 : Ext w6 ((w6.alloc zmsg).setRow w6.heap.size D) := by
    have m1 : Mod [] w6 (w6.alloc zmsg) := by repeat (first | (with_reducible exact Mod.refl _ _) | (with_reducible assumption) | (with_reducible refine Mod.setCell ?_ (by simp) _) | (with_reducible refine Mod.alloc ?_ _) | (with_reducible refine Mod.drew ?_) | (with_reducible refine Mod.drewN ?_ _))
    exact (Mod.setRow m1 (by right; omega) D).to_ext (by simp)
  have RM := same_calls m o2 o ((w6.alloc zmsg).setRow w6.heap.size D) (hS2.ext e7) ((K3.out.ext hE6).ext e7) (ok_owners m hm)
  rw [← hD, ← HC.out] at RM
  have HE6 := Lib.hid hE6
  have HE7 := Lib.hid e7
  have HD := Lib.hid hD
  have HDS := Lib.hid hds
  have HID := Lib.hid hid
  have G0 := Lib.hid g0
  have G1 := Lib.hid g1
  have G2 := Lib.hid g2
  clear hE6 e7 hD hds hid k0 hS2 RS g0 g1 g2
  go_wp2_with (first | (refine wpList_load_row rfl 40 (.tmp 1) rfl N rfl 40 C (0, 0) _ G1.out Tryz.underlying40 rfl HI.out ?_) | (refine wpList_load_row rfl 40 (.tmp 8) rfl w6.heap.size rfl 40 D (0, 0) _ G0.out Tryz.underlying40 rfl HID.out ?_) | (refine wpList_store_row rfl 40 (.tmp 8) (.tmp 21) rfl w6.heap.size D rfl rfl 40 _ G2.out HID.out (by rw [HDS.out.1]; rfl) HDS.out.2 ?_))
  refine RM.mono ?_
  rintro e w8 ⟨rfl, hE8⟩
  have HE8 := Lib.hid hE8
  clear hE8 RM
  go_wp2_with fail
  go_ret2
  unfold BytesPost
  exact ⟨rfl, (HE5.out.trans HE6.out).trans (HE7.out.trans HE8.out)⟩
end
end Go.Proofs.YtchmhkdnegngdaaGreat
