/- awake. -/
import Derived.Test.YtchmhkdnegngdaaGreatLb
set_option linter.unusedVariables false
set_option linter.unusedSimpArgs false
namespace Go.Proofs.YtchmhkdnegngdaaGreat
open Go.RowKit


theorem good_aw0 : Good aw0 := by constructor <;> decide +kernel
theorem good_aw1 : Good aw1 := by constructor <;> decide +kernel
theorem good_aw2 : Good aw2 := by constructor <;> decide +kernel
theorem good_aw3 : Good aw3 := by constructor <;> decide +kernel
theorem good_aw4 : Good aw4 := by constructor <;> decide +kernel
theorem right_first : rightB 1 2 [0, 1] = true := by decide +kernel

theorem ownsRow_slice {w : World} {base : Nat} {e : TypeId} {size : Nat} {v : Value} {n : Nat} {xs : List Value} (h : w.ownsRow base e size v n xs) : ∃ a c, v = .slice a n c := by
  rcases h.2 with ⟨e, h0⟩ | ⟨g, cap, cur, e, _⟩
  · exact ⟨none, 0, by rw [e, h0]⟩
  · exact ⟨_, _, e⟩

set_option maxRecDepth 100000 in
set_option maxHeartbeats 800000 in
theorem awake_calls (w : World) : Calls Tryz.prog 20 #[] w (fun e w' => e = .returned (.bool true) ∧ Ext w w') := by
  go_enter Tryz.func20, Tryz.ntmps20
  go_wp2_with fail
  refine (first_calls w).mono ?_
  intro e w1 q
  unfold FirstPost at q
  obtain ⟨g, gc, rfl, hI, _, hE⟩ := q
  go_wp2_with fail
  refine (held_new (w0 := w) 1 2 g 0 gc [0, 1] (by decide) hI right_first hE).mono ?_
  rintro e w2 ⟨c, rfl, H0, _⟩
  have h0 := Lib.hid H0
  clear H0 hI hE
  go_wp2_with fail
  refine (held_order 0 1 h0.out good_aw0).mono ?_
  rw [show St.new 1 2 [0, 1] = aw0 from rfl, aw_order]
  rintro e w3 ⟨rfl, H1, _⟩
  have h1 := Lib.hid (show Held w w3 c aw1 [] from H1)
  clear H1
  go_wp2_with fail
  refine (mready_calls 1 0 1 w3).mono ?_
  rintro e w4 ⟨rfl, hE⟩
  have h1b := Lib.hid (h1.out.ext hE)
  obtain ⟨C, hC⟩ : ∃ C, C = (ncells 10 1 0 1).toArray := ⟨_, rfl⟩
  have hM : MsgC C 10 1 0 1 := by rw [hC]; exact ncells_msg ..
  rw [← hC]
  have HM := Lib.hid hM
  clear hE hC hM
  go_wp2_with fail
  refine (held_handle 1 10 1 0 1 C HM.out h1b.out good_aw1).mono ?_
  rw [aw_ready]
  rintro e w5 ⟨rfl, H2, _⟩
  have h2 := Lib.hid (show Held w w5 c aw2 [] from H2)
  clear H2
  go_wp2_with fail
  have RT := held_table h2.out good_aw2
  rw [show aw2.ep = 2 from rfl, show aw2.n = 2 from rfl, show aw2.own = [1, 1] from rfl, show ([1, 1] : List Int).length = 2 from rfl] at RT
  refine RT.mono ?_
  rintro e w6 ⟨q, qc, rfl, hI, hq1, hq2, H2, hE⟩
  have e7 : Ext w6 (w6.alloc (.cells #[i64 2, i64 2, .slice (some ⟨q, 0, none⟩) 2 qc] 28)) := by (refine Mod.to_ext (S := []) ?_ (by simp); repeat (first | (with_reducible exact Mod.refl _ _) | (with_reducible assumption) | (with_reducible refine Mod.alloc ?_ _) | (with_reducible refine Mod.drew ?_) | (with_reducible refine Mod.drewN ?_ _)))
  have h2b := Lib.hid (h2.out.more (hE.trans e7) [q, w6.heap.size] (by
    have := hE.size
    simp only [List.mem_cons, List.not_mem_nil, or_false, World.size_alloc]
    rintro k (e | e) <;> subst e <;> omega))
  have HI := Lib.hid (hI.ext e7)
  have HB := Lib.hid (Blk.new w6 [i64 2, i64 2, .slice (some ⟨q, 0, none⟩) 2 qc] 28)
  clear H2 hE hI e7
  go_wp2_with fail
  revert h2b HI HB
  generalize w6.heap.size = T
  generalize hW : World.alloc w6 _ = W
  clear hW
  intro h2b HI HB
  refine (mdone_calls 1 0 W).mono ?_
  rintro e w7 ⟨rfl, hE⟩
  have hs7 := h2b.out.stay hE
  have h7 := Lib.hid (h2b.out.ext hE)
  have HI7 := Lib.hid (HI.out.stay hs7 (by simp))
  have HB7 := Lib.hid (HB.out.stay hs7 (by simp))
  obtain ⟨D, hD⟩ : ∃ D, D = (ncells 13 1 0 0).toArray := ⟨_, rfl⟩
  have hM : MsgC D 13 1 0 0 := by rw [hD]; exact ncells_msg ..
  rw [← hD]
  have HDM := Lib.hid hM
  have HD := Lib.hid hD
  clear hE hD hM hs7
  go_wp2_with fail
  refine (held_handle 1 13 1 0 0 D HDM.out h7.out good_aw2).mono ?_
  rw [aw_done1]
  rintro e w8 ⟨rfl, H3, hs8⟩
  have h8 := Lib.hid (show Held w w8 c aw3 _ from H3)
  have HI8 := Lib.hid (HI7.out.stay hs8 (by simp))
  have HB8 := Lib.hid (HB7.out.stay hs8 (by simp))
  clear H3 hs8
  go_wp2_with fail
  refine (mdone_calls 1 0 w8).mono ?_
  rintro e w9 ⟨rfl, hE⟩
  have hs9 := h8.out.stay hE
  have h9 := Lib.hid (h8.out.ext hE)
  have HI9 := Lib.hid (HI8.out.stay hs9 (by simp))
  have HB9 := Lib.hid (HB8.out.stay hs9 (by simp))
  rw [← HD.out]
  clear hE hs9
  go_wp2_with fail
  refine (held_handle 0 13 1 0 0 D HDM.out h9.out good_aw3).mono ?_
  rw [aw_done0]
  rintro e w10 ⟨rfl, H3, hs10⟩
  have h10 := Lib.hid (show Held w w10 c aw4 _ from H3)
  have HI10 := Lib.hid (HI9.out.stay hs10 (by simp))
  have HB10 := Lib.hid (HB9.out.stay hs10 (by simp))
  clear H3 hs10
  go_wp2_with fail
  refine (held_ended h10.out).mono ?_
  rintro e w11 ⟨rfl, H3, hE⟩
  have hs11 := h10.out.stay hE
  have h11 := Lib.hid H3
  have HI11 := Lib.hid (HI10.out.stay hs11 (by simp))
  obtain ⟨b1, b2⟩ := (HB10.out.stay hs11 (by simp)).read
  have i0 := HI11.out.at0 (i := 0) (by decide)
  clear H3 hs11 hE
  go_wp2_with fail
  refine (held_moves h11.out good_aw4).mono ?_
  rintro e w12 ⟨v, rfl, ho, H4, hE⟩
  obtain ⟨va, vc, rfl⟩ := ownsRow_slice ho
  have h12 := Lib.hid H4
  rw [show aw4.L.length = 0 from rfl]
  clear H4 ho hE
  go_wp2_with fail
  go_ret
  obtain ⟨F, _, _, hE, _⟩ := h12.out
  exact ⟨rfl, hE⟩
end Go.Proofs.YtchmhkdnegngdaaGreat
