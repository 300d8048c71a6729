/- msg.Bytes. -/
import Derived.Test.YtchmhkdnegngdaaGreatSm
set_option linter.unusedVariables false
set_option linter.unusedSimpArgs false
namespace Go.Proofs.YtchmhkdnegngdaaGreat
open Go.RowKit


/-- what Bytes leaves -/
def BytesPost (m : Ms) (w : World) (e : Ending) (w' : World) : Prop :=
  e = .returned (.tuple #[.string ⟨m.enc.toArray⟩, i64 0]) ∧ Ext w w'

theorem enc_ne (m : Ms) : m.enc ≠ [] := by cases m <;> simp [Ms.enc]

theorem tenc_len {ep n : Nat} {xs : List Nat} (h1 : small ep) (h2 : small n) (h3 : xs.length ≤ 64) (h4 : ∀ x ∈ xs, small x) : (tenc ep n xs).length ≤ 335 := by
  have l1 := vb_len5 h1
  have l2 := vb_len5 h2
  have l3 := vb_len5 (x := xs.length) (by unfold small; omega)
  have l4 := flat_len h4
  simp only [tenc, List.length_append]; omega

theorem enc_len (m : Ms) (h : m.ok) : m.enc.length ≤ 400 := by
  cases m with
  | prep mv part dst =>
    obtain ⟨h1, h2, h3⟩ := h
    have := vb_len5 h1; have := vb_len5 h2; have := vb_len5 h3
    simp only [Ms.enc, List.length_cons, List.length_append]; omega
  | abort mv part =>
    obtain ⟨h1, h2⟩ := h
    have := vb_len5 h1; have := vb_len5 h2
    simp only [Ms.enc, List.length_cons, List.length_append]; omega
  | commit mv part ep n xs =>
    obtain ⟨h1, h2, h3, h4, h5, h6, h7⟩ := h
    have := vb_len5 h1; have := vb_len5 h2; have := tenc_len h3 h4 h6 h7
    simp only [Ms.enc, List.length_cons, List.length_append]; omega
  | table ep n xs =>
    obtain ⟨h3, h4, h5, h6, h7⟩ := h
    have := tenc_len h3 h4 h6 h7
    simp only [Ms.enc, List.length_cons]; omega

theorem ok_owners (m : Ms) (h : m.ok) : m.owners.length ≤ 64 := by
  cases m with
  | prep mv part dst => simp [Ms.owners]
  | abort mv part => simp [Ms.owners]
  | commit mv part ep n xs => exact h.2.2.2.2.2.1
  | table ep n xs => exact h.2.2.2.1

theorem Sl.one {w : World} {o : Value} {xs : List Int} (h : Sl w o xs) : o.oneCell' = true := by
  rcases h with ⟨_, e⟩ | ⟨_, b, off, cap, e, _⟩ <;> rw [e] <;> rfl

theorem Sl.lt {w : World} {o : Value} {xs : List Int} (h : Sl w o xs) {q : Nat} (hq : o.ownBlock = some q) : q < w.heap.size := by
  rcases h with ⟨_, e⟩ | ⟨h0, b, off, cap, e, hI⟩
  · rw [e] at hq; cases hq
  · rw [e] at hq
    have e : b = q := by simpa [Value.ownBlock] using hq
    have h2 : b < w.heap.size := World.block_lt_of_cell? w _ (hI.at0 (i := 0) (List.length_pos_iff.2 h0))
    omega

set_option maxRecDepth 100000 in
set_option maxHeartbeats 1600000 in
theorem Bytes_calls (m : Ms) (o : Value) (w : World) (hm : m.ok) (h : Sl w o (ints m.owners)) :
    Calls Tryz.prog 79 #[.agg (m.cells o).toArray] w (BytesPost m w) := by
  have hmf : ∀ (fn : Fn) (first cap : Array Value) (w : World), (Instr.makeFunc fn first cap).run Tryz.prog w = .ok (.func fn first cap) w := fun _ _ _ _ => rfl
  have hcs := cells_ok m o h.one
  obtain ⟨C, hC⟩ : ∃ C, C = (m.cells o).toArray := ⟨_, rfl⟩
  rw [← hC] at hcs ⊢
  have hi : (Tryz.prog.info? 40).map (·.size) = some C.size := by rw [hcs.1]; kernel_rfl
  have HI := Lib.hid hi
  have HC := Lib.hid hC
  have HCS := Lib.hid hcs
  clear hC hcs hi
  go_enter Tryz.func79, Tryz.ntmps79
  have f1 : ((w.alloc (.cells C 40)).alloc (.cells #[.slice none 0 0] 192)).heap[w.heap.size]? = some (.cells C 40 (0, 0)) := (heap_alloc_old _ _ (by simp)).trans (heap_alloc_new w _)
  have f2 : (((w.alloc (.cells C 40)).alloc (.cells #[.slice none 0 0] 192)).alloc zmsg).heap[w.heap.size + 1 + 1]? = some zmsg := by
    have := heap_alloc_new ((w.alloc (.cells C 40)).alloc (.cells #[.slice none 0 0] 192)) zmsg
    simpa only [World.size_alloc] using this
  have F1 := Lib.hid f1
  have F2 := Lib.hid f2
  clear f1 f2
  go_wp2_with (first | (refine wpList_load_row rfl 40 (.tmp 1) rfl w.heap.size rfl 40 C (0, 0) _ F1.out Tryz.underlying40 rfl HI.out ?_) | (refine wpList_store_row rfl 40 (.tmp 5) (.tmp 10) rfl (w.heap.size + 1 + 1) C rfl rfl 40 _ F2.out HI.out (by rw [HCS.out.1]; rfl) HCS.out.2 ?_))
  have hE3 : Ext w ((((w.alloc (.cells C 40)).alloc (.cells #[.slice none 0 0] 192)).alloc zmsg).setRow (w.heap.size + 1 + 1) C) := by
    have m1 : Mod [] w (((w.alloc (.cells C 40)).alloc (.cells #[.slice none 0 0] 192)).alloc zmsg) := by repeat (first | (with_reducible exact Mod.refl _ _) | (with_reducible assumption) | (with_reducible refine Mod.setCell ?_ (by simp) _) | (with_reducible refine Mod.alloc ?_ _) | (with_reducible refine Mod.drew ?_) | (with_reducible refine Mod.drewN ?_ _))
    exact (Mod.setRow m1 (by right; omega) C).to_ext (by simp)
  have b0 : ((((w.alloc (.cells C 40)).alloc (.cells #[.slice none 0 0] 192)).alloc zmsg).setRow (w.heap.size + 1 + 1) C).heap[w.heap.size]? = some (.cells C 40 (0, 0)) :=
    (setRow_other _ _ _ C (by omega)).trans ((heap_alloc_old _ _ (by simp; omega)).trans ((heap_alloc_old _ _ (by simp)).trans (heap_alloc_new w _)))
  have b1 : ((((w.alloc (.cells C 40)).alloc (.cells #[.slice none 0 0] 192)).alloc zmsg).setRow (w.heap.size + 1 + 1) C).heap[w.heap.size + 1]? = some (.cells [.slice none 0 0].toArray 192 (0, 0)) :=
    (setRow_other _ _ _ C (by omega)).trans ((heap_alloc_old _ _ (by simp)).trans (by have := heap_alloc_new (w.alloc (.cells C 40)) (.cells #[.slice none 0 0] 192); simpa only [World.size_alloc] using this))
  have b2 : ((((w.alloc (.cells C 40)).alloc (.cells #[.slice none 0 0] 192)).alloc zmsg).setRow (w.heap.size + 1 + 1) C).heap[w.heap.size + 1 + 1]? = some (.cells C 40 (0, 0)) := setRow_heap _ _ _ C 40 (0, 0) F2.out
  have hsz : ((((w.alloc (.cells C 40)).alloc (.cells #[.slice none 0 0] 192)).alloc zmsg).setRow (w.heap.size + 1 + 1) C).heap.size = w.heap.size + 3 := by simp
  clear F1 F2
  simp only [zmsg, mcells] at hE3 b0 b1 b2 hsz
  have hlt : ∀ q, o.ownBlock = some q → q < w.heap.size := fun q hq => h.lt hq
  have h3 := h.ext hE3
  revert hE3 b0 b1 b2 hsz h3 hlt
  generalize hN : w.heap.size = N
  generalize hW : World.setRow _ (N + 1 + 1) C = W3
  clear hW
  intro hE3 b0 b1 b2 hsz hlt h3
  have e4 : Ext W3 (W3.alloc (.cells #[i64 0] 23)) := by (refine Mod.to_ext (S := []) ?_ (by simp); repeat (first | (with_reducible exact Mod.refl _ _) | (with_reducible assumption) | (with_reducible refine Mod.alloc ?_ _) | (with_reducible refine Mod.drew ?_) | (with_reducible refine Mod.drewN ?_ _)))
  have b5 : Blk (W3.alloc (.cells #[i64 0] 23)) W3.heap.size [i64 0] 23 := Blk.new W3 [i64 0] 23
  have b1' : Blk W3 (N + 1) [.slice none 0 0] 192 := b1
  have b2' : Blk W3 (N + 1 + 1) (m.cells o) 40 := by unfold Blk; rw [← HC.out]; exact b2
  have hS : StW (N + 1) 192 (W3.alloc (.cells #[i64 0] 23)) [N + 1] [] := ⟨.slice none 0 0, ⟨b1'.ext e4, Row.nil _, by simp [Value.ownBlock]⟩, rfl⟩
  have R1 := walk_w (N + 1) 192 (N + 1 + 1) m o (W3.alloc (.cells #[i64 0] 23)) _ hS (b2'.ext e4) (by simp) hm (by
    intro h0
    rcases h3.ext e4 with ⟨hh, _⟩ | ⟨_, b, off, cap, rfl, hI⟩
    · exact (h0 (by simpa [ints] using hh)).elim
    · have := hlt b rfl
      exact ⟨b, off, cap, by rw [ints_len], hI, by simp; omega, by omega⟩)
  have R2 := wclosure _ _ _ _ R1
  have R3 := safely_w _ _ W3 _ R2 (by
    rintro w' ⟨own', v, _, _, hM, _⟩
    exact b5.mod hM (by simp; omega))
  have HE3 := Lib.hid hE3
  have B0 := Lib.hid b0
  have HE4 := Lib.hid e4
  have H3 := Lib.hid h3
  have HN := Lib.hid hN
  have HLT := Lib.hid hlt
  clear R1 R2 hS b0 b1 b2 b1' b2' hE3 e4 b5 h3 h hN hlt
  refine R3.mono ?_
  rintro e w5 ⟨rfl, w4, ⟨own', v, ⟨v2, hSt, hown⟩, hB, hM, hO⟩, rfl⟩
  have hl1 := hM.size
  simp only [World.size_alloc] at hl1
  have k0 : (w4.setCell ⟨W3.heap.size, 0, none⟩ (i64 0)).heap[N]? = some (.cells C 40 (0, 0)) :=
    (Below.heap_setCell w4 ⟨W3.heap.size, 0, none⟩ (i64 0) N (by simp; omega)).trans ((hM.block N (by simp; omega) (by simp; omega)).trans ((HE4.out.block N (by omega)).trans B0.out))
  have k1 : WIs (w4.setCell ⟨W3.heap.size, 0, none⟩ (i64 0)) (N + 1) 192 v2 m.enc := hSt.mod (S := [W3.heap.size]) (by repeat (first | (with_reducible exact Mod.refl _ _) | (with_reducible assumption) | (with_reducible refine Mod.setCell ?_ (by simp) _) | (with_reducible refine Mod.alloc ?_ _) | (with_reducible refine Mod.drew ?_) | (with_reducible refine Mod.drewN ?_ _))) (by simp; omega) (by
    intro q hq hh
    simp at hh
    have := hO q (by rw [hown]; simp [hq])
    simp at this; omega)
  have k3 : Sl (w4.setCell ⟨W3.heap.size, 0, none⟩ (i64 0)) o (ints m.owners) := ((H3.out.ext HE4.out).mod hM (by intro q hq; have := HLT.out q hq; simp; omega)).set_other _ _ (by intro q hq; have := HLT.out q hq; simp; omega)
  have hE5 : Ext w (w4.setCell ⟨W3.heap.size, 0, none⟩ (i64 0)) := by
    have m1 : Mod [] w w4 := ((Mod.of_ext HE3.out).ext HE4.out).step hM (by have := HN.out; simp; omega)
    exact (m1.setCell (by right; have := HN.out; simp; omega) _).to_ext (by simp)
  generalize w4.setCell ⟨W3.heap.size, 0, none⟩ (i64 0) = W5 at *
  have RS := string_calls (N + 1) 192 v2 m.enc W5 k1 (enc_ne m)
  have HE5 := Lib.hid hE5
  have K0 := Lib.hid k0
  have K3 := Lib.hid k3
  clear k0 k1 k3 hE5 hSt hown hB hM hO R3
  go_wp2_with fail
  refine RS.mono ?_
  rintro e w' ⟨rfl, rfl⟩
  go_wp2_with fail
  refine (Read_calls ⟨m.enc.toArray⟩ m W5 hm rfl (by have := enc_len m hm; simp [ByteArray.size]; omega)).mono ?_
  intro e w6 q0
  unfold ReadPost at q0
  obtain ⟨o2, rfl, hS2, hE6⟩ := q0
  have hds := cells_ok m o2 hS2.one
  obtain ⟨D, hD⟩ : ∃ D, D = (m.cells o2).toArray := ⟨_, rfl⟩
  rw [← hD] at hds
  rw [← hD]
  have hlt5 : N < W5.heap.size := lt_of_block K0.out
  have k0 : w6.heap[N]? = some (.cells C 40 (0, 0)) := (hE6.block N hlt5).trans K0.out
  have hid : (Tryz.prog.info? 40).map (·.size) = some D.size := by rw [hds.1]; kernel_rfl
  have hlt6 : N < w6.heap.size := lt_of_block k0
  have g0 : ((w6.alloc zmsg).setRow w6.heap.size D).heap[w6.heap.size]? = some (.cells D 40 (0, 0)) := setRow_heap _ _ _ D 40 (0, 0) (heap_alloc_new w6 zmsg)
  have g1 : ((w6.alloc zmsg).setRow w6.heap.size D).heap[N]? = some (.cells C 40 (0, 0)) := (setRow_other _ _ _ D (by omega)).trans ((heap_alloc_old _ _ hlt6).trans k0)
  have g2 : (w6.alloc zmsg).heap[w6.heap.size]? = some zmsg := heap_alloc_new _ _
  have e7 : Ext w6 ((w6.alloc zmsg).setRow w6.heap.size D) := by
    have m1 : Mod [] w6 (w6.alloc zmsg) := by repeat (first | (with_reducible exact Mod.refl _ _) | (with_reducible assumption) | (with_reducible refine Mod.setCell ?_ (by simp) _) | (with_reducible refine Mod.alloc ?_ _) | (with_reducible refine Mod.drew ?_) | (with_reducible refine Mod.drewN ?_ _))
    exact (Mod.setRow m1 (by right; omega) D).to_ext (by simp)
  have RM := same_calls m o2 o ((w6.alloc zmsg).setRow w6.heap.size D) (hS2.ext e7) ((K3.out.ext hE6).ext e7) (ok_owners m hm)
  rw [← hD, ← HC.out] at RM
  have HE6 := Lib.hid hE6
  have HE7 := Lib.hid e7
  have HD := Lib.hid hD
  have HDS := Lib.hid hds
  have HID := Lib.hid hid
  have G0 := Lib.hid g0
  have G1 := Lib.hid g1
  have G2 := Lib.hid g2
  clear hE6 e7 hD hds hid k0 hS2 RS g0 g1 g2
  go_wp2_with (first | (refine wpList_load_row rfl 40 (.tmp 1) rfl N rfl 40 C (0, 0) _ G1.out Tryz.underlying40 rfl HI.out ?_) | (refine wpList_load_row rfl 40 (.tmp 8) rfl w6.heap.size rfl 40 D (0, 0) _ G0.out Tryz.underlying40 rfl HID.out ?_) | (refine wpList_store_row rfl 40 (.tmp 8) (.tmp 21) rfl w6.heap.size D rfl rfl 40 _ G2.out HID.out (by rw [HDS.out.1]; rfl) HDS.out.2 ?_))
  refine RM.mono ?_
  rintro e w8 ⟨rfl, hE8⟩
  have HE8 := Lib.hid hE8
  clear hE8 RM
  go_wp2_with fail
  go_ret2
  unfold BytesPost
  exact ⟨rfl, (HE5.out.trans HE6.out).trans (HE7.out.trans HE8.out)⟩
end Go.Proofs.YtchmhkdnegngdaaGreat
