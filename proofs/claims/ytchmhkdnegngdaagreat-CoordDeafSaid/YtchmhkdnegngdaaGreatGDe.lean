/- CoordDeaf: the walk. -/
import Derived.Test.YtchmhkdnegngdaaGreatGFi
import Derived.Laws.StructEq
set_option linter.unusedVariables false
set_option linter.unusedSimpArgs false
namespace Go.Proofs.YtchmhkdnegngdaaGreat
open Go.RowKit

section
theorem first_right2 (n m : Nat) (h1 : 1 ≤ n) (h2 : n ≤ 4) (h3 : 1 ≤ m) (h4 : m ≤ 8) : rightB 1 n (firstOwners n m) = true := by
  unfold rightB
  have hb : (firstOwners n m).any (badOwner n) = false := by
    rw [List.any_eq_false]
    intro x hx
    simp only [firstOwners, List.mem_map, List.mem_range] at hx
    obtain ⟨i, _, rfl⟩ := hx
    have := Nat.mod_lt i h1
    simp [badOwner]
    omega
  simp only [hb, firstOwners_len]
  simp
  omega


theorem acts_one (w : World) (x : Ac) (hx : x.ok) : Acts (w.alloc (.cells x.cells.toArray 62)) (some ⟨w.heap.size, 0, none⟩) [x] := by
  refine ⟨by intro z hz; rw [List.mem_singleton.1 hz]; exact hx, fun _ => ⟨w.heap.size, 0, rfl, by simp, fun i hi j u hu => ?_⟩⟩
  have hi0 : i = 0 := by simpa using hi
  subst hi0
  have := (Blk.new w x.cells 62).read.1 j
  rw [show 0 + 0 * 28 + j = j by omega, this]
  exact hu

attribute [local go_sem ↓] ld62_pre in
attribute [local go_sem] ld62_run in
attribute [local go_sem ↓] ld40_pre in
attribute [local go_sem] ld40_run in
attribute [local go_sem ↓] bd62_pre bs51_pre in
set_option maxRecDepth 100000 in
set_option maxHeartbeats 1600000 in
theorem deaf_calls (nd sh : Nat) (hnd : nd < 256) (hsh : sh < 256) (A : Option Addr) (c : Nat) (xs : List Ac) (f : Int) (y : Ac) (hy : y.ok) (hyo : (⟨0, 0, 0, 0, y.M, 0, 0, y.kind, y.mv, y.mpart, y.mcode, y.l1, y.l2, y.s1, y.s2⟩ : Ac).ok) (w : World) (h : Acts w A xs) :
    Calls Tryz.prog 6 #[.int .u8 nd, .int .u8 sh, .slice A xs.length c, i64 f, .agg y.M.toArray] w (fun e w' => e = .returned (.bool true) ∧ Ext w w') := by
  obtain ⟨M, hM⟩ : ∃ M, M = y.M.toArray := ⟨_, rfl⟩
  have e0 : Ext w (w.alloc (.cells M 40)) := by (refine Mod.to_ext (S := []) ?_ (by simp); repeat (first | (with_reducible exact Mod.refl _ _) | (with_reducible assumption) | (with_reducible refine Mod.alloc ?_ _) | (with_reducible refine Mod.drew ?_) | (with_reducible refine Mod.drewN ?_ _)))
  have hB := heap_alloc_new w (.cells M 40)
  have hA0 := h.ext e0
  rw [← hM]
  have HM := Lib.hid hM
  have HY := Lib.hid hy
  have HYO := Lib.hid hyo
  clear h hM hy hyo
  go_enter Tryz.func6, Tryz.ntmps6
  go_wp2_with fail
  revert e0 hB hA0
  generalize w.heap.size = T9
  generalize hW : World.alloc w _ = w0
  clear hW
  intro e0 hB hA0
  have HE0 := Lib.hid e0
  have HB9 := Lib.hid hB
  have H0 := Lib.hid hA0
  have hm9 : ∀ W', Ext w0 W' → Blk W' T9 y.M 40 := by
    intro W' hX
    have := (hX.block T9 (lt_of_block hB)).trans hB
    rw [HM.out] at this
    exact this
  have HM9 := Lib.hid hm9
  clear e0 hB hA0 hm9
  refine (awake_calls w0).mono ?_
  rintro e w1 ⟨rfl, hE⟩
  have HE1 := Lib.hid hE
  clear hE
  go_wp2_with fail
  refine (great_calls A c xs w1 (H0.out.ext HE1.out)).mono ?_
  intro e w2 q
  unfold GreatPost at q
  obtain ⟨r, rfl, hr, hE⟩ := q
  have HE2 := Lib.hid (HE1.out.trans hE)
  have HR := Lib.hid hr
  clear hE hr HE1
  cases r with
  | true =>
    go_wp2_with fail
    go_ret
    exact ⟨rfl, HE0.out.trans HE2.out⟩
  | false =>
    have hlen := HR.out rfl
    obtain ⟨l1, l2⟩ := row_of_heap (w := w2) (N := T9) (M := y.M) (by have := (HE2.out.block T9 (lt_of_block HB9.out)).trans HB9.out; rw [HM.out] at this; exact this) HY.out.len
    rw [← HM.out] at l2
    have hbd : (bd62 #[(4, .agg M)]).run Tryz.prog w2 = .ok (.agg (actOf y.M).toArray) w2 := by rw [HM.out]; exact bd62_run w2 y.M HY.out.len
    have hbs := bs51_run w2 (actOf y.M) (actOf_len HY.out.len)
    generalize hD : (actOf y.M).toArray = D at hbd hbs
    go_wp2_with fail
    have ha1 := acts_one w2 _ HYO.out
    have hcD : (⟨0, 0, 0, 0, y.M, 0, 0, y.kind, y.mv, y.mpart, y.mcode, y.l1, y.l2, y.s1, y.s2⟩ : Ac).cells.toArray = D := hD
    rw [hcD] at ha1
    have eD : Ext w2 (w2.alloc (.cells D 62)) := by (refine Mod.to_ext (S := []) ?_ (by simp); repeat (first | (with_reducible exact Mod.refl _ _) | (with_reducible assumption) | (with_reducible refine Mod.alloc ?_ _) | (with_reducible refine Mod.drew ?_) | (with_reducible refine Mod.drewN ?_ _)))
    refine (great_calls _ 1 _ _ ha1).mono ?_
    intro e w3 q
    unfold GreatPost at q
    obtain ⟨r, rfl, hr, hE⟩ := q
    have HE3 := Lib.hid (HE2.out.trans (eD.trans hE))
    clear hE hr ha1 hcD hD hbd hbs eD l1 l2 HR HE2
    cases r with
    | true =>
      go_wp2_with fail
      go_ret
      exact ⟨rfl, HE0.out.trans HE3.out⟩
    | false =>
    go_wp2_with fail
    have T := tnew_calls (1 + nd % 4) (1 + sh % 8) w3 (by omega) (by omega) (by omega) (by omega)
    have hrt : rightB 1 (1 + nd % 4 : Nat) (firstOwners (1 + nd % 4) (1 + sh % 8)) = true := first_right2 _ _ (by omega) (by omega) (by omega) (by omega)
    rw [show (((1 + nd % 4 : Nat)) : Int) = 1 + (nd : Int) % 4 from by omega, show (((1 + sh % 8 : Nat)) : Int) = 1 + (sh : Int) % 8 from by omega] at T
    rw [show (((1 + nd % 4 : Nat)) : Int) = 1 + (nd : Int) % 4 from by omega] at hrt
    generalize firstOwners (1 + nd % 4) (1 + sh % 8) = ow at T hrt
    have HRT := Lib.hid hrt
    obtain ⟨_, _, _, ho1, ho8, _⟩ := rightB_true hrt
    refine T.mono ?_
    intro e w4 q
    unfold NewTable2 at q
    obtain ⟨g, gc, rfl, hI, hg1, hg2, hE⟩ := q
    have HE4 := Lib.hid (HE3.out.trans hE)
    have HI := Lib.hid hI
    clear hI hE T hrt HE3
    go_wp2_with fail
    have e4 : Ext w4 (w4.alloc (.cells #[i64 1, i64 (1 + (nd : Int) % 4), .slice (some ⟨g, 0, none⟩) ow.length gc] 28)) := by (refine Mod.to_ext (S := []) ?_ (by simp); repeat (first | (with_reducible exact Mod.refl _ _) | (with_reducible assumption) | (with_reducible refine Mod.alloc ?_ _) | (with_reducible refine Mod.drew ?_) | (with_reducible refine Mod.drewN ?_ _)))
    have hI4 := HI.out.ext e4
    have hX4 := HE4.out.trans e4
    generalize hN : w4.heap.size = N
    generalize hW : w4.alloc (.cells #[i64 1, i64 (1 + (nd : Int) % 4), .slice (some ⟨g, 0, none⟩) ow.length gc] 28) = W4 at hI4 hX4 ⊢
    have HI4 := Lib.hid hI4
    have HX4 := Lib.hid hX4
    clear hW hN e4 hI4 hX4 HE4 HI hg1 hg2
    refine (cnew_calls 1 (1 + (nd : Int) % 4) g 0 gc ow W4 (by omega) HI4.out HRT.out).mono ?_
    intro e w5 q
    unfold NewPost at q
    obtain ⟨a, Fa, rfl, hCa, hFa, hE⟩ := q
    have HT := Lib.hid (Held.made HX4.out hCa hFa hE)
    have HIV := Lib.hid (Inv.new HRT.out)
    clear hCa hFa hE HI4 HX4 HRT
    go_wp2_with fail
    go_loopw [15] (fun i wr => ∃ k : Nat, k ≤ xs.length ∧ i = i64 k ∧ ∃ s, Held w0 wr a s [] ∧ Inv 1 k s) (fun i _ => xs.length - (intOf i).toNat)
    case atStart => exact ⟨0, by omega, rfl, _, HT.out, HIV.out⟩
    case round =>
      obtain ⟨k, hk, rfl, s, hT, hI⟩ := hrel
      have HG := Lib.hid (hI.good (by omega) (by omega))
      have HF := Lib.hid (hI.fine (by omega) (by omega))
      have HI := Lib.hid hI
      obtain ⟨wo, rfl⟩ : ∃ wo : World, wo = wr := ⟨_, rfl⟩
      have HT1 := Lib.hid hT
      have hn1 := hI.n1
      clear hT hI HT HIV
      by_cases hlt : k < xs.length
      · obtain ⟨b0, off, rfl, _, hc, hx⟩ := (H0.out.ext HT1.out.out).at hlt
        obtain ⟨l1, l2⟩ := rowAt_of hc hx.cells_len
        generalize xs[k] = x at l2 hx
        have HX := Lib.hid hx
        obtain ⟨C, hC⟩ : ∃ C, C = x.cells.toArray := ⟨_, rfl⟩
        rw [← hC] at l2
        have HC := Lib.hid hC
        clear hC hx hc
        go_wp2_with fail
        have O1 := held_one x HT1.out HG.out HX.out
        rw [← HC.out] at O1
        obtain ⟨z, hz⟩ : ∃ z, z = s.one x := ⟨_, rfl⟩
        rw [← hz] at O1
        refine O1.mono ?_
        rintro e w6 ⟨rfl, hT2, _⟩
        have HT2 := Lib.hid hT2
        have HI2 := Lib.hid (HI.out.one x)
        rw [← hz] at HI2
        clear O1 hT2 l1 l2 hz
        go_wp2_with fail
        go_roundw
        case rel => exact ⟨k + 1, by omega, by go_num, z.1, HT2.out, HI2.out⟩
        case measure => simp [intOf]; omega
      · go_wp2_with fail
        refine (held_moves2 HT1.out HG.out).mono ?_
        intro e w6 q
        unfold MovesOwn at q
        obtain ⟨Am, cm, rfl, hMv, hO, hE⟩ := q
        have HMV := Lib.hid hMv
        have HT2 := Lib.hid (HT1.out.more hE (kOf s.L.length Am) hO.blk)
        clear hMv hO hE HT1
        have b91 : w6.cell? ⟨T9, 1, none⟩ = some (i64 y.mv) := ((HM9.out w6 HT2.out.out).read.1 1).trans (by simpa using HY.out.msg.c1)
        go_wp2_with fail
        refine (find_calls _ s.L y.mv w6 HMV.out (by have := HG.out.l12; omega)).mono ?_
        intro e w7 q
        unfold FindPost at q
        obtain ⟨rfl, hE⟩ := q
        have HT3 := Lib.hid (HT2.out.ext hE)
        have HMV2 := Lib.hid (HMV.out.ext hE)
        clear hE HT2 HMV b91
        obtain ⟨x, hx⟩ : ∃ x, x = (findMv s.L y.mv).getD zeroMv := ⟨_, rfl⟩
        obtain ⟨is, his⟩ : ∃ is, is = (findMv s.L y.mv).isSome := ⟨_, rfl⟩
        rw [← hx, ← his]
        unfold Mv.val
        have HX := Lib.hid hx
        have HIS := Lib.hid his
        clear hx his
        have eX : Ext w7 (w7.alloc (.cells #[i64 x.mv, i64 x.part, i64 x.fr, i64 x.dst, i64 x.st, i64 x.dn] 77)) := by (refine Mod.to_ext (S := []) ?_ (by simp); repeat (first | (with_reducible exact Mod.refl _ _) | (with_reducible assumption) | (with_reducible refine Mod.alloc ?_ _) | (with_reducible refine Mod.drew ?_) | (with_reducible refine Mod.drewN ?_ _)))
        have hbx := Blk.new w7 [i64 x.mv, i64 x.part, i64 x.fr, i64 x.dst, i64 x.st, i64 x.dn] 77
        go_upto_region 15 with (fail)
        generalize hN7 : w7.heap.size = T17 at hbx ⊢
        generalize hW : w7.alloc (.cells #[i64 x.mv, i64 x.part, i64 x.fr, i64 x.dst, i64 x.st, i64 x.dn] 77) = w8 at hbx eX ⊢
        clear hN7 hW
        have HT4 := Lib.hid (HT3.out.ext eX)
        have HMV3 := Lib.hid (HMV2.out.ext eX)
        have HBX := Lib.hid hbx
        clear hbx eX HT3 HMV2
        go_cut [19] (fun s19 wx => s19 = .bool (ownB s.L f y.kind y.mv y.mpart) ∧ wx = w8)
        case first =>
          obtain ⟨bx, bf⟩ := HBX.out.read
          have x1 := bx 1
          have x2 := bx 2
          have x3 := bx 3
          have x4 := bx 4
          have x5 := bx 5
          simp only [List.getElem?_cons_succ, List.getElem?_cons_zero] at x1 x2 x3 x4 x5
          have y0 : w8.cell? ⟨T9, 0, none⟩ = some (.int .u8 y.kind) := ((HM9.out w8 HT4.out.out).read.1 0).trans (by simpa using HY.out.msg.c0)
          have y2 : w8.cell? ⟨T9, 2, none⟩ = some (i64 y.mpart) := ((HM9.out w8 HT4.out.out).read.1 2).trans (by simpa using HY.out.msg.c2)
          clear bx bf
          have hown : (is = false ∧ ownB s.L f y.kind y.mv y.mpart = false) ∨ (is = true ∧ ownB s.L f y.kind y.mv y.mpart = ownX x f y.kind y.mpart) := by
            rw [HIS.out, HX.out]
            unfold ownB
            cases findMv s.L y.mv with
            | none => exact .inl ⟨rfl, rfl⟩
            | some z => exact .inr ⟨rfl, rfl⟩
          rcases hown with ⟨rfl, ho⟩ | ⟨rfl, ho⟩
          · have HOWN := Lib.hid ho
            clear ho
            go_wp2_with fail
            go_meet
            exact ⟨by rw [HOWN.out], rfl⟩
          · have HOWN := Lib.hid ho
            clear ho
            rcases Bool.eq_false_or_eq_true (x.part == y.mpart) with q_p | q_p
            · skip
              rcases Bool.eq_false_or_eq_true (y.kind == 10) with q_k10 | q_k10
              · have q_k13 : (y.kind == 13) = false := by rw [show y.kind = 10 by simpa using q_k10]; rfl
                rcases Bool.eq_false_or_eq_true (x.st == 1) with q_st1 | q_st1
                · have q_sn : (x.st != 1) = false := by simpa using q_st1
                  rcases Bool.eq_false_or_eq_true (f == x.dst) with q_fd | q_fd
                  · skip
                    go_wp2_with fail
                    go_meet
                    exact ⟨by rw [HOWN.out]; simp [ownX, and1, and2, *], rfl⟩
                  · skip
                    go_wp2_with fail
                    go_meet
                    exact ⟨by rw [HOWN.out]; simp [ownX, and1, and2, *], rfl⟩
                · have q_sn : (x.st != 1) = true := by simpa using q_st1
                  go_wp2_with fail
                  go_meet
                  exact ⟨by rw [HOWN.out]; simp [ownX, and1, and2, *], rfl⟩
              · skip
                rcases Bool.eq_false_or_eq_true (y.kind == 13) with q_k13 | q_k13
                · skip
                  rcases Bool.eq_false_or_eq_true (x.st == 1) with q_st1 | q_st1
                  · have q_sn : (x.st != 1) = false := by simpa using q_st1
                    go_wp2_with fail
                    go_meet
                    exact ⟨by rw [HOWN.out]; simp [ownX, and1, and2, *], rfl⟩
                  · have q_sn : (x.st != 1) = true := by simpa using q_st1
                    rcases Bool.eq_false_or_eq_true (f == x.fr) with q_ff | q_ff
                    · skip
                      rcases Bool.eq_false_or_eq_true (bits BinOp.and IntKind.i64 x.dn 1 == 0) with q_a1 | q_a1
                      · skip
                        go_wp2_with fail
                        go_meet
                        exact ⟨by rw [HOWN.out]; simp [ownX, and1, and2, *], rfl⟩
                      · skip
                        rcases Bool.eq_false_or_eq_true (f == x.dst) with q_fd | q_fd
                        · skip
                          rcases Bool.eq_false_or_eq_true (bits BinOp.and IntKind.i64 x.dn 2 == 0) with q_a2 | q_a2
                          · skip
                            go_wp2_with fail
                            go_meet
                            exact ⟨by rw [HOWN.out]; simp [ownX, and1, and2, *], rfl⟩
                          · skip
                            go_wp2_with fail
                            go_meet
                            exact ⟨by rw [HOWN.out]; simp [ownX, and1, and2, *], rfl⟩
                        · skip
                          go_wp2_with fail
                          go_meet
                          exact ⟨by rw [HOWN.out]; simp [ownX, and1, and2, *], rfl⟩
                    · skip
                      rcases Bool.eq_false_or_eq_true (f == x.dst) with q_fd | q_fd
                      · skip
                        rcases Bool.eq_false_or_eq_true (bits BinOp.and IntKind.i64 x.dn 2 == 0) with q_a2 | q_a2
                        · skip
                          go_wp2_with fail
                          go_meet
                          exact ⟨by rw [HOWN.out]; simp [ownX, and1, and2, *], rfl⟩
                        · skip
                          go_wp2_with fail
                          go_meet
                          exact ⟨by rw [HOWN.out]; simp [ownX, and1, and2, *], rfl⟩
                      · skip
                        go_wp2_with fail
                        go_meet
                        exact ⟨by rw [HOWN.out]; simp [ownX, and1, and2, *], rfl⟩
                · skip
                  go_wp2_with fail
                  go_meet
                  exact ⟨by rw [HOWN.out]; simp [ownX, and1, and2, *], rfl⟩
            · skip
              go_wp2_with fail
              go_meet
              exact ⟨by rw [HOWN.out]; simp [ownX, and1, and2, *], rfl⟩
        case rest =>
          obtain ⟨rfl, rfl⟩ := hcut
          go_wp2_with fail
          refine (held_table2 HT4.out HG.out).mono ?_
          intro e w9 q
          unfold TableOwn at q
          obtain ⟨q1, qc1, rfl, ho, hE⟩ := q
          have ho1 := HG.out.o0
          have ho2 := HG.out.ol
          obtain ⟨hI1, hq1, hq2, _⟩ := own_ints ho ho1
          have eT : Ext w9 (w9.alloc (.cells #[i64 s.ep, i64 s.n, .slice (some ⟨q1, 0, none⟩) s.own.length qc1] 28)) := by (refine Mod.to_ext (S := []) ?_ (by simp); repeat (first | (with_reducible exact Mod.refl _ _) | (with_reducible assumption) | (with_reducible refine Mod.alloc ?_ _) | (with_reducible refine Mod.drew ?_) | (with_reducible refine Mod.drewN ?_ _)))
          have HI1 := Lib.hid (hI1.ext eT)
          have HMV4 := Lib.hid (HMV3.out.ext (hE.trans eT))
          have HT5 := Lib.hid (HT4.out.more (hE.trans eT) [q1, w9.heap.size] (by
            have := hE.size
            simp only [List.mem_cons, List.not_mem_nil, or_false, World.size_alloc]
            rintro k (e | e) <;> subst e <;> omega))
          have HB20 := Lib.hid (Blk.new w9 [i64 s.ep, i64 s.n, .slice (some ⟨q1, 0, none⟩) s.own.length qc1] 28)
          clear ho hE hI1 eT HMV3 HT4 HBX
          go_wp2_with fail
          revert HI1 HMV4 HT5 HB20
          generalize w9.heap.size = T20
          generalize hW : World.alloc w9 _ = w10
          clear hW
          intro HI1 HMV4 HT5 HB20
          refine (held_tick2 HT5.out HG.out HF.out hn1).mono ?_
          intro e w11 q
          unfold TickOwn at q
          obtain ⟨At, ct, rfl, hP, hO, hE⟩ := q
          have HP := Lib.hid hP
          have HT6 := Lib.hid (HT5.out.more hE (kOf s.tick.length At) hO.blk)
          have HMV5 := Lib.hid (HMV4.out.ext hE)
          have HI2 := Lib.hid (HI1.out.ext hE)
          have HB21 := Lib.hid (HB20.out.ext hE)
          have ht0 := tick_pos s hn1
          have ht9 := tick_le s HG.out.l12 HI.out.n4
          obtain ⟨l1, l2⟩ := row_of_heap (w := w11) (N := T9) (M := y.M) (HM9.out w11 HT6.out.out) HY.out.len
          rw [← HM.out] at l2
          clear hP hO hE HT5 HMV4 HI1 HB20
          go_wp2_with fail
          have R := held_handle f y.kind y.mv y.mpart y.mcode M (by rw [HM.out]; exact HY.out.msg) HT6.out HG.out
          have hsy := handle_says HI.out f y.kind y.mv y.mpart y.mcode
          rw [hsy.1] at R hsy
          refine R.mono ?_
          rintro e w12 ⟨rfl, hT7, hST⟩
          have HT7 := Lib.hid hT7
          have HST := Lib.hid hST
          have HSY := Lib.hid hsy.2
          clear R hsy hT7 hST l1 l2
          cases ho : ownB s.L f y.kind y.mv y.mpart with
          | true =>
            clear ho
            go_wp2_with fail
            go_ret
            exact ⟨rfl, HE0.out.trans HT7.out.out⟩
          | false =>
            have HT8 := Lib.hid (by have := HT7.out; rw [HSY.out ho] at this; exact this)
            have hkl := HT8.out.klt
            have hPw := HP.out.stay ht0 (fun k hk => hkl k (by simp [hk])) (fun k hk => HST.out k (by simp [hk]))
            have hMw := HMV5.out.stay (fun k hk => hkl k (by simp [hk])) (fun k hk => HST.out k (by simp [hk]))
            have hIw := HI2.out.stay HST.out (by simp)
            have hBw := HB21.out.stay HST.out (by simp)
            have HP2 := Lib.hid hPw
            have HMV6 := Lib.hid hMw
            have HI3 := Lib.hid hIw
            have HB22 := Lib.hid hBw
            clear ho HSY HT7 hkl hPw hMw hIw hBw HP HMV5 HI2 HB21 HST HT6
            go_wp2_with fail
            refine (held_moves2 HT8.out HG.out).mono ?_
            intro e w13 q
            unfold MovesOwn at q
            obtain ⟨A2, c2, rfl, hMv, _, hE⟩ := q
            have HMA := Lib.hid hMv
            have HMB := Lib.hid (HMV6.out.ext hE)
            have HP3 := Lib.hid (HP2.out.ext hE)
            have HI4 := Lib.hid (HI3.out.ext hE)
            have HB23 := Lib.hid (HB22.out.ext hE)
            have HT9 := Lib.hid (HT8.out.ext hE)
            have hl12 := HG.out.l12
            clear hMv hE HMV6 HP2 HI3 HB22 HT8
            go_wp2_with fail
            go_loopw [23] (fun i wr => ∃ j : Nat, j ≤ s.L.length ∧ i = i64 j ∧ Ext w13 wr) (fun i _ => s.L.length - (intOf i).toNat)
            case atStart => exact ⟨0, by omega, rfl, Below.refl _ _⟩
            case round =>
              obtain ⟨j, hj, rfl, hE⟩ := hrel
              have HE := Lib.hid hE
              by_cases hlt2 : j < s.L.length
              · obtain ⟨g1, rfl, hg1, c1⟩ := HMA.out.form hlt2
                obtain ⟨g2, rfl, hg2, c2⟩ := HMB.out.form hlt2
                have a1 := fun j' u hu => (hE.cell (p := ⟨g1, j * 6 + j', none⟩) hg1).trans (c1 j hlt2 j' u hu)
                have a2 := fun j' u hu => (hE.cell (p := ⟨g2, j * 6 + j', none⟩) hg2).trans (c2 j hlt2 j' u hu)
                have a10 : wr.cell? ⟨g1, j * 6, none⟩ = _ := a1 0 _ rfl
                have a11 := a1 1 _ rfl
                have a12 := a1 2 _ rfl
                have a13 := a1 3 _ rfl
                have a14 := a1 4 _ rfl
                have a15 := a1 5 _ rfl
                have a20 : wr.cell? ⟨g2, j * 6, none⟩ = _ := a2 0 _ rfl
                have a21 := a2 1 _ rfl
                have a22 := a2 2 _ rfl
                have a23 := a2 3 _ rfl
                have a24 := a2 4 _ rfl
                have a25 := a2 5 _ rfl
                clear a1 a2 c1 c2 hE
                generalize s.L[j] = m at a10 a11 a12 a13 a14 a15 a20 a21 a22 a23 a24 a25
                go_wp2_with fail
                go_quiet (fail)
                go_wp2_with fail
                go_roundw
                case rel => exact ⟨j + 1, by omega, by go_num, HE.out.trans (by (refine Mod.to_ext (S := []) ?_ (by simp); repeat (first | (with_reducible exact Mod.refl _ _) | (with_reducible assumption) | (with_reducible refine Mod.alloc ?_ _) | (with_reducible refine Mod.drew ?_) | (with_reducible refine Mod.drewN ?_ _))))⟩
                case measure => simp [intOf]; omega
              · have HTa := Lib.hid (HT9.out.ext hE)
                have HP4 := Lib.hid (HP3.out.ext hE)
                have HI5 := Lib.hid (HI4.out.ext hE)
                have HB24 := Lib.hid (HB23.out.ext hE)
                clear hE HT9 HP3 HI4 HB23 HMA HMB
                go_wp2_with fail
                have RT := held_table2 (HTa.out.ext (show Ext wr wr.drew by (refine Mod.to_ext (S := []) ?_ (by simp); repeat (first | (with_reducible exact Mod.refl _ _) | (with_reducible assumption) | (with_reducible refine Mod.alloc ?_ _) | (with_reducible refine Mod.drew ?_) | (with_reducible refine Mod.drewN ?_ _))))) HG.out
                have hEw : Ext wr wr.drew := by (refine Mod.to_ext (S := []) ?_ (by simp); repeat (first | (with_reducible exact Mod.refl _ _) | (with_reducible assumption) | (with_reducible refine Mod.alloc ?_ _) | (with_reducible refine Mod.drew ?_) | (with_reducible refine Mod.drewN ?_ _)))
                obtain ⟨s0, s1, s2⟩ := blk3 (HB24.out.ext hEw)
                have HEW := Lib.hid hEw
                have HLEN := Lib.hid (show 1 ≤ s.n from hn1)
                clear hEw
                go_region_held3 (fun w' => w'.cell? ⟨T20, 0, none⟩ = some (i64 s.ep) ∧ w'.cell? ⟨T20, 1, none⟩ = some (i64 s.n) ∧ w'.cell? ⟨T20, 2, none⟩ = some (.slice (some ⟨q1, 0, none⟩) s.own.length qc1)) (first | assumption | (refine ⟨?_, ?_, ?_⟩ <;> assumption)) ((first
                  | ((with_reducible refine RT.mono ?_); intro e w14 q; unfold TableOwn at q; obtain ⟨q2, qc2, rfl, ho, hE⟩ := q; have hq := own_ints ho ho1; have E14 := Lib.hid (HEW.out.trans hE); have RS := tsame_calls s.ep s.n s.ep s.n q2 0 qc2 q1 0 qc1 s.own s.own w14 (by omega) (by omega) hq.1 (HI5.out.ext E14.out); have hsb : sameB s.ep s.n s.own s.ep s.n s.own = true := by simp [sameB, eqB]
                     rw [hsb] at RS; clear hsb ho hE hq s0 s1 s2; obtain ⟨s0, s1, s2⟩ := blk3 (HB24.out.ext E14.out))
                  | ((with_reducible refine RS.mono ?_); rintro e w15 ⟨rfl, hE⟩; have E15 := Lib.hid (E14.out.trans hE); have RK := held_tick2 (HTa.out.ext E15.out) HG.out HF.out HLEN.out; clear hE s0 s1 s2; obtain ⟨s0, s1, s2⟩ := blk3 (HB24.out.ext E15.out))
                  | ((with_reducible refine RK.mono ?_); intro e w16 q; unfold TickOwn at q; obtain ⟨A3, k3, rfl, hP5, _, hE⟩ := q; have E16 := Lib.hid (E15.out.trans hE); have RP := packets_calls _ _ s.tick w16 hP5 (HP4.out.ext E16.out) (by omega); clear hE hP5 s0 s1 s2; obtain ⟨s0, s1, s2⟩ := blk3 (HB24.out.ext E16.out))
                  | ((with_reducible refine RP.mono ?_); rintro e w17 ⟨rfl, hE⟩; have E17 := Lib.hid (E16.out.trans hE); clear hE s0 s1 s2; obtain ⟨s0, s1, s2⟩ := blk3 (HB24.out.ext E17.out))))
                go_wp2_with fail
                go_ret
                exact ⟨rfl, HE0.out.trans (HTa.out.out.trans E17.out)⟩
end
end Go.Proofs.YtchmhkdnegngdaaGreat
