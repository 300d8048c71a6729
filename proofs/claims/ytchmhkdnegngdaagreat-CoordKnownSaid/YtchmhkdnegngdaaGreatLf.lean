/- CoordKnown: the walk. -/
import Derived.Test.YtchmhkdnegngdaaGreatLe
set_option linter.unusedVariables false
set_option linter.unusedSimpArgs false
namespace Go.Proofs.YtchmhkdnegngdaaGreat
open Go.RowKit


set_option maxRecDepth 100000 in
set_option maxHeartbeats 1600000 in
theorem known_calls (w : World) : Calls Tryz.prog 3 #[] w (fun e w' => e = .returned (.bool true) ∧ Ext w w') := by
  go_enter Tryz.func3, Tryz.ntmps3
  go_wp2_with fail
  refine (first_calls w).mono ?_
  intro e w1 q
  unfold FirstPost at q
  obtain ⟨g, gc, rfl, hI, _, hE⟩ := q
  go_wp2_with fail
  refine (held_new (w0 := w) 1 2 g 0 gc [0, 1] (by decide) hI right_first hE).mono ?_
  rintro e w2 ⟨c, rfl, H0, _⟩
  have h0 := Lib.hid H0
  clear H0 hI hE
  go_wp2_with fail
  refine (held_order 0 1 h0.out good_aw0).mono ?_
  rw [show St.new 1 2 [0, 1] = aw0 from rfl, aw_order]
  rintro e w3 ⟨rfl, H1, _⟩
  have h1 := Lib.hid (show Held w w3 c aw1 [] from H1)
  clear H1
  go_wp2_with fail
  refine (held_order 0 1 h1.out good_aw1).mono ?_
  rw [kn_order2]
  rintro e w4 ⟨rfl, H1, _⟩
  have h2 := Lib.hid (show Held w w4 c aw1 [] from H1)
  clear H1
  go_wp2_with fail
  refine (held_abort 1 h2.out good_aw1).mono ?_
  rw [kn_abort1]
  rintro e w5 ⟨rfl, H1, _⟩
  have h3 := Lib.hid (show Held w w5 c aw1 [] from H1)
  clear H1
  go_wp2_with fail
  refine (held_tick h3.out good_aw1 fine_aw1).mono ?_
  obtain ⟨d1, ps1, ht1, hl1⟩ := tick_aw1
  rw [ht1]
  rintro e w6 ⟨v, rfl, hP, hv, H1, hE⟩
  obtain ⟨ga, ca, rfl, hga, hca⟩ := hP.form
  rw [hl1]
  have h4 := Lib.hid (h3.out.more hE [ga] (by intro k hk; simp at hk; subst hk; exact ⟨hv _ rfl, hga⟩))
  have HCA := Lib.hid hca
  clear H1 hE hP hv ht1 hl1 hca hga
  go_wp2_with fail
  refine (mready_calls 1 0 1 w6).mono ?_
  rintro e w7 ⟨rfl, hE⟩
  have hs := h4.out.stay hE
  have h5 := Lib.hid (h4.out.ext hE)
  have HCA7 := Lib.hid (cell_stay HCA.out hs (by simp))
  obtain ⟨C, hC⟩ : ∃ C, C = (ncells 10 1 0 1).toArray := ⟨_, rfl⟩
  have hM : MsgC C 10 1 0 1 := by rw [hC]; exact ncells_msg ..
  rw [← hC]
  have HM := Lib.hid hM
  have HC := Lib.hid hC
  clear hE hC hM hs
  go_wp2_with fail
  refine (held_handle 0 10 1 0 1 C HM.out h5.out good_aw1).mono ?_
  rw [kn_ready0]
  rintro e w8 ⟨rfl, H2, hs⟩
  have h6 := Lib.hid (show Held w w8 c aw1 _ from H2)
  have HCA8 := Lib.hid (cell_stay HCA7.out hs (by simp))
  clear H2 hs
  go_wp2_with fail
  refine (mready_calls 1 0 1 w8).mono ?_
  rintro e w9 ⟨rfl, hE⟩
  have hs := h6.out.stay hE
  have h7 := Lib.hid (h6.out.ext hE)
  have HCA9 := Lib.hid (cell_stay HCA8.out hs (by simp))
  rw [← HC.out]
  clear hE hs
  go_wp2_with fail
  refine (held_handle 1 10 1 0 1 C HM.out h7.out good_aw1).mono ?_
  rw [aw_ready]
  rintro e w10 ⟨rfl, H2, hs⟩
  have h8 := Lib.hid (show Held w w10 c aw2 _ from H2)
  have HCA10 := Lib.hid (cell_stay HCA9.out hs (by simp))
  clear H2 hs
  go_wp2_with fail
  refine (held_abort 0 h8.out good_aw2).mono ?_
  rw [kn_abort0]
  rintro e w11 ⟨rfl, H2, hs⟩
  have h9 := Lib.hid (show Held w w11 c aw2 _ from H2)
  have HCA11 := Lib.hid (cell_stay HCA10.out hs (by simp))
  clear H2 hs
  go_wp2_with fail
  have RT := held_table h9.out good_aw2
  rw [show aw2.ep = 2 from rfl, show aw2.n = 2 from rfl, show aw2.own = [1, 1] from rfl, show ([1, 1] : List Int).length = 2 from rfl] at RT
  refine RT.mono ?_
  rintro e w12 ⟨q, qc, rfl, hI, hq1, hq2, H2, hE⟩
  have e7 : Ext w12 (w12.alloc (.cells #[i64 2, i64 2, .slice (some ⟨q, 0, none⟩) 2 qc] 28)) := by (refine Mod.to_ext (S := []) ?_ (by simp); repeat (first | (with_reducible exact Mod.refl _ _) | (with_reducible assumption) | (with_reducible refine Mod.alloc ?_ _) | (with_reducible refine Mod.drew ?_) | (with_reducible refine Mod.drewN ?_ _)))
  have hs := h9.out.stay (hE.trans e7)
  have h10 := Lib.hid (h9.out.more (hE.trans e7) [q, w12.heap.size] (by
    have := hE.size
    simp only [List.mem_cons, List.not_mem_nil, or_false, World.size_alloc]
    rintro k (e | e) <;> subst e <;> omega))
  have HI := Lib.hid (hI.ext e7)
  have HB := Lib.hid (Blk.new w12 [i64 2, i64 2, .slice (some ⟨q, 0, none⟩) 2 qc] 28)
  have HCA12 := Lib.hid (cell_stay HCA11.out hs (by simp))
  clear H2 hE hI e7 hs RT
  go_wp2_with fail
  revert h10 HI HB HCA12
  generalize w12.heap.size = T
  generalize hW : World.alloc w12 _ = W
  clear hW
  intro h10 HI HB HCA12
  refine (held_tick h10.out good_aw2 fine_aw2).mono ?_
  obtain ⟨d2, ps2, ht2, hl2⟩ := tick_aw2
  rw [ht2]
  rintro e w13 ⟨v, rfl, hP, hv, H1, hE⟩
  obtain ⟨gb, cb, rfl, hgb, hcb⟩ := hP.form
  rw [hl2]
  have hs := h10.out.stay hE
  have h11 := Lib.hid (h10.out.ext hE)
  have hCA13 := cell_stay HCA12.out hs (by simp)
  have HI13 := Lib.hid (HI.out.stay hs (by simp))
  obtain ⟨b1, b2⟩ := (HB.out.stay hs (by simp)).read
  clear H1 hE hP hv ht2 hl2 hs hgb
  go_wp2_with fail
  have e3 : Ext w13 (w13.alloc (.cells #[i64 1, i64 1] 3)) := by (refine Mod.to_ext (S := []) ?_ (by simp); repeat (first | (with_reducible exact Mod.refl _ _) | (with_reducible assumption) | (with_reducible refine Mod.alloc ?_ _) | (with_reducible refine Mod.drew ?_) | (with_reducible refine Mod.drewN ?_ _)))
  have hi2 : IA (w13.alloc (.cells #[i64 1, i64 1] 3)) w13.heap.size 0 [1, 1] := by
    intro i hi
    rw [Nat.zero_add, (Blk.new w13 [i64 1, i64 1] 3).read.1]
    match i, hi with
    | 0, _ => rfl
    | 1, _ => rfl
  have RS := rsame_calls 2 2 [1, 1] q 0 qc w13.heap.size 0 2 _ (HI13.out.ext e3) hi2 (by decide)
  refine RS.mono ?_
  rintro e w14 ⟨rfl, hE⟩
  have h12 := Lib.hid (h11.out.ext (e3.trans hE))
  have hcb14 : w14.cell? ⟨gb, 1, none⟩ = some (i64 1) := by
    have hlt := World.block_lt_of_cell? w13 _ hcb
    exact (World.cell?_of_block ((e3.trans hE).block gb hlt)).trans hcb
  clear RS hi2 hcb hCA13 b1 b2 e3 hE
  go_wp2_with fail
  refine (mdone_calls 1 0 w14).mono ?_
  rintro e w15 ⟨rfl, hE⟩
  have h13 := Lib.hid (h12.out.ext hE)
  obtain ⟨D, hD⟩ : ∃ D, D = (ncells 13 1 0 0).toArray := ⟨_, rfl⟩
  have hM : MsgC D 13 1 0 0 := by rw [hD]; exact ncells_msg ..
  rw [← hD]
  have HDM := Lib.hid hM
  have HD := Lib.hid hD
  clear hE hD hM hcb14
  go_wp2_with fail
  refine (held_handle 1 13 1 0 0 D HDM.out h13.out good_aw2).mono ?_
  rw [aw_done1]
  rintro e w16 ⟨rfl, H3, _⟩
  have h14 := Lib.hid (show Held w w16 c aw3 _ from H3)
  clear H3
  go_wp2_with fail
  refine (mdone_calls 1 0 w16).mono ?_
  rintro e w17 ⟨rfl, hE⟩
  have h15 := Lib.hid (h14.out.ext hE)
  rw [← HD.out]
  clear hE
  go_wp2_with fail
  refine (held_handle 1 13 1 0 0 D HDM.out h15.out good_aw3).mono ?_
  rw [kn_again]
  rintro e w18 ⟨rfl, H3, _⟩
  have h16 := Lib.hid (show Held w w18 c aw3 _ from H3)
  clear H3
  go_wp2_with fail
  refine (mdone_calls 1 0 w18).mono ?_
  rintro e w19 ⟨rfl, hE⟩
  have h17 := Lib.hid (h16.out.ext hE)
  rw [← HD.out]
  clear hE
  go_wp2_with fail
  refine (held_handle 0 13 1 0 0 D HDM.out h17.out good_aw3).mono ?_
  rw [aw_done0]
  rintro e w20 ⟨rfl, H3, _⟩
  have h18 := Lib.hid (show Held w w20 c aw4 _ from H3)
  clear H3
  go_wp2_with fail
  refine (held_ended h18.out).mono ?_
  rintro e w21 ⟨rfl, H3, _⟩
  have h19 := Lib.hid H3
  clear H3
  go_wp2_with fail
  refine (awake_calls w21).mono ?_
  rintro e w22 ⟨rfl, hE⟩
  have h20 := Lib.hid (h19.out.ext hE)
  clear hE
  go_wp2_with fail
  refine (held_moves h20.out good_aw4).mono ?_
  rintro e w23 ⟨v, rfl, ho, H4, _⟩
  obtain ⟨va, vc, rfl⟩ := ownsRow_slice ho
  have h21 := Lib.hid H4
  rw [show aw4.L.length = 0 from rfl]
  clear H4 ho
  go_wp2_with fail
  go_ret
  obtain ⟨F, _, _, hE, _⟩ := h21.out
  exact ⟨rfl, hE⟩
end Go.Proofs.YtchmhkdnegngdaaGreat
