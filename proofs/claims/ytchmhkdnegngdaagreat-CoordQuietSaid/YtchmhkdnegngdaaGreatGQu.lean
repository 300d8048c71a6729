/- CoordQuiet: the walk. -/
import Derived.Test.YtchmhkdnegngdaaGreatGIv
set_option linter.unusedVariables false
set_option linter.unusedSimpArgs false
namespace Go.Proofs.YtchmhkdnegngdaaGreat
open Go.RowKit

section
theorem first_right (n m : Nat) (h1 : 1 ≤ n) (h2 : n ≤ 4) (h3 : 1 ≤ m) (h4 : m ≤ 8) : rightB 1 n (firstOwners n m) = true := by
  unfold rightB
  have hb : (firstOwners n m).any (badOwner n) = false := by
    rw [List.any_eq_false]
    intro x hx
    simp only [firstOwners, List.mem_map, List.mem_range] at hx
    obtain ⟨i, _, rfl⟩ := hx
    have := Nat.mod_lt i h1
    simp [badOwner]
    omega
  simp only [hb, firstOwners_len]
  simp
  omega

/-- what stands at the head of the law's loop -/
def QuietAt (w0 : World) (a b : Nat) (xs : List Ac) (i : Value) (wr : World) : Prop :=
  ∃ k : Nat, k ≤ xs.length ∧ i = i64 k ∧ ∃ s, Two w0 wr a b s s ∧ Inv 1 k s

attribute [local go_sem ↓] ld62_pre in
attribute [local go_sem] ld62_run in
set_option maxRecDepth 100000 in
set_option maxHeartbeats 1600000 in
theorem quiet_calls (nd sh : Nat) (hnd : nd < 256) (hsh : sh < 256) (A : Option Addr) (c : Nat) (xs : List Ac) (w : World) (h : Acts w A xs) :
    Calls Tryz.prog 5 #[.int .u8 nd, .int .u8 sh, .slice A xs.length c] w (fun e w' => e = .returned (.bool true) ∧ Ext w w') := by
  go_enter Tryz.func5, Tryz.ntmps5
  go_wp2_with fail
  refine (awake_calls w).mono ?_
  rintro e w1 ⟨rfl, hE⟩
  have H0 := Lib.hid h
  have h1 := Lib.hid (h.ext hE)
  have HE1 := Lib.hid hE
  clear h hE
  go_wp2_with fail
  refine (great_calls A c xs w1 h1.out).mono ?_
  intro e w2 q
  unfold GreatPost at q
  obtain ⟨r, rfl, hr, hE⟩ := q
  have h2 := Lib.hid (h1.out.ext hE)
  have HE2 := Lib.hid (HE1.out.trans hE)
  have HR := Lib.hid hr
  clear h1 hE hr HE1
  cases r with
  | true =>
    go_wp2_with fail
    go_ret
    exact ⟨rfl, HE2.out⟩
  | false =>
    have hlen := HR.out rfl
    go_wp2_with fail
    have T := tnew_calls (1 + nd % 4) (1 + sh % 8) w2 (by omega) (by omega) (by omega) (by omega)
    have hrt : rightB 1 (1 + nd % 4 : Nat) (firstOwners (1 + nd % 4) (1 + sh % 8)) = true := first_right _ _ (by omega) (by omega) (by omega) (by omega)
    rw [show (((1 + nd % 4 : Nat)) : Int) = 1 + (nd : Int) % 4 from by omega, show (((1 + sh % 8 : Nat)) : Int) = 1 + (sh : Int) % 8 from by omega] at T
    rw [show (((1 + nd % 4 : Nat)) : Int) = 1 + (nd : Int) % 4 from by omega] at hrt
    generalize firstOwners (1 + nd % 4) (1 + sh % 8) = ow at T hrt
    have HRT := Lib.hid hrt
    obtain ⟨_, _, _, ho1, ho8, _⟩ := rightB_true hrt
    refine T.mono ?_
    intro e w3 q
    unfold NewTable2 at q
    obtain ⟨g, gc, rfl, hI, hg1, hg2, hE⟩ := q
    have h3 := Lib.hid (h2.out.ext hE)
    have HE3 := Lib.hid hE
    have HI := Lib.hid hI
    clear hI hE T hrt HR h2
    go_wp2_with fail
    have e4 : Ext w3 (w3.alloc (.cells #[i64 1, i64 (1 + (nd : Int) % 4), .slice (some ⟨g, 0, none⟩) ow.length gc] 28)) := by (refine Mod.to_ext (S := []) ?_ (by simp); repeat (first | (with_reducible exact Mod.refl _ _) | (with_reducible assumption) | (with_reducible refine Mod.alloc ?_ _) | (with_reducible refine Mod.drew ?_) | (with_reducible refine Mod.drewN ?_ _)))
    have hB := Blk.new w3 [i64 1, i64 (1 + (nd : Int) % 4), .slice (some ⟨g, 0, none⟩) ow.length gc] 28
    have hI4 := HI.out.ext e4
    have hA4 := h3.out.ext e4
    have hX4 := (HE2.out.trans HE3.out).trans e4
    generalize hN : w3.heap.size = N at hB ⊢
    generalize hW : w3.alloc (.cells #[i64 1, i64 (1 + (nd : Int) % 4), .slice (some ⟨g, 0, none⟩) ow.length gc] 28) = W4 at hI4 hA4 hX4 hB ⊢
    have HI4 := Lib.hid hI4
    have HA4 := Lib.hid hA4
    have HX4 := Lib.hid hX4
    have HB4 := Lib.hid hB
    clear hW hN e4 hI4 hA4 hX4 hB h3 HE2 HE3 HI hg1 hg2
    refine (cnew_calls 1 (1 + (nd : Int) % 4) g 0 gc ow W4 (by omega) HI4.out HRT.out).mono ?_
    intro e w5 q
    unfold NewPost at q
    obtain ⟨a, Fa, rfl, hCa, hFa, hE⟩ := q
    have HCA := Lib.hid hCa
    have HFA := Lib.hid hFa
    have HE5 := Lib.hid hE
    obtain ⟨b5, f5⟩ := (HB4.out.ext hE).read
    have b50 := b5 0
    have b51 := b5 1
    have b52 := b5 2
    simp only [List.getElem?_cons_succ, List.getElem?_cons_zero] at b50 b51 b52
    clear hCa hFa hE b5
    go_wp2_with fail
    refine (cnew_calls 1 (1 + (nd : Int) % 4) g 0 gc ow w5 (by omega) (HI4.out.ext HE5.out) HRT.out).mono ?_
    intro e w6 q
    unfold NewPost at q
    obtain ⟨b, Fb, rfl, hCb, hFb, hE⟩ := q
    have HT := Lib.hid (Two.made HX4.out HCA.out HFA.out HE5.out (Below.refl _ _) hCb hFb hE)
    have HIV := Lib.hid (Inv.new HRT.out)
    have HA6 := Lib.hid (HA4.out.ext (HE5.out.trans hE))
    clear hCb hFb hE HCA HFA HE5 HB4 HI4 HA4 b50 b51 b52 f5
    go_wp2_with fail
    clear HX4 HA6 HRT
    go_loopw [13] (fun i wr => ∃ k : Nat, k ≤ xs.length ∧ i = i64 k ∧ ∃ s, Two w wr a b s s ∧ Inv 1 k s) (fun i _ => xs.length - (intOf i).toNat)
    case atStart => exact ⟨0, by omega, rfl, _, HT.out, HIV.out⟩
    case round =>
      obtain ⟨k, hk, rfl, s, hT, hI⟩ := hrel
      have HG := Lib.hid (hI.good (by omega) (by omega))
      have HF := Lib.hid (hI.fine (by omega) (by omega))
      have HI := Lib.hid hI
      obtain ⟨wo, rfl⟩ : ∃ wo : World, wo = wr := ⟨_, rfl⟩
      have HT1 := Lib.hid hT
      have hn1 := hI.n1
      clear hT hI HT HIV
      by_cases hlt : k < xs.length
      · go_wp2_with fail
        refine (two_tick HT1.out HG.out HF.out hn1).mono ?_
        intro e w7 q
        unfold TickOwn at q
        obtain ⟨At, ct, rfl, _, hO, hE⟩ := q
        have HO := Lib.hid hO
        have HE7 := Lib.hid hE
        have hnt := tick_le s HG.out.l12 HI.out.n4
        generalize s.tick.length = nt at HO hnt ⊢
        clear hO hE
        go_wp2_with fail
        go_loopw [15] (fun i wr => ∃ j : Nat, j ≤ nt ∧ i = i64 j ∧ OwnRow wo.heap.size wr At nt 3 ∧ Ext wo wr) (fun i _ => nt - (intOf i).toNat)
        case atStart => exact ⟨0, by omega, rfl, HO.out, HE7.out⟩
        case round =>
          obtain ⟨j, hj, rfl, hO, hE⟩ := hrel
          have HO2 := Lib.hid hO
          have HE8 := Lib.hid hE
          clear hO hE HO HE7
          by_cases hlt2 : j < nt
          · obtain ⟨g, rfl, hg, hraw⟩ := HO2.out (by omega)
            obtain ⟨⟨v, hv⟩, hf⟩ := hraw.at (i := j * 3 + 1) (by omega)
            have HRW := Lib.hid hraw
            clear hraw
            go_wp2_with fail
            go_roundw
            case rel => exact ⟨j + 1, by omega, by go_num, fun _ => ⟨g, rfl, hg, HRW.out.set _ _⟩, ((Mod.of_ext (S := []) HE8.out).setCell (.inr hg) _).to_ext (by simp)⟩
            case measure => simp [intOf]; omega
          · obtain ⟨w8, rfl⟩ : ∃ w8 : World, w8 = wr := ⟨_, rfl⟩
            clear HO2
            go_wp2_with fail
            refine (two_moves (HT1.out.ext HE8.out) HG.out).mono ?_
            intro e w9 q
            unfold MovesOwn at q
            obtain ⟨Am, cm, rfl, _, hO, hE⟩ := q
            have HO := Lib.hid hO
            have HE9 := Lib.hid hE
            have hnm := HG.out.l12
            generalize s.L.length = nm at HO hnm ⊢
            clear hO hE
            go_wp2_with fail
            go_loopw [17] (fun i wr => ∃ j : Nat, j ≤ nm ∧ i = i64 j ∧ OwnRow w8.heap.size wr Am nm 6 ∧ Ext w8 wr) (fun i _ => nm - (intOf i).toNat)
            case atStart => exact ⟨0, by omega, rfl, HO.out, HE9.out⟩
            case round =>
              obtain ⟨j, hj, rfl, hO, hE⟩ := hrel
              have HO2 := Lib.hid hO
              have HE10 := Lib.hid hE
              clear hO hE HO HE9
              by_cases hlt2 : j < nm
              · obtain ⟨g, rfl, hg, hraw⟩ := HO2.out (by omega)
                obtain ⟨⟨v, hv⟩, hf⟩ := hraw.at (i := j * 6 + 4) (by omega)
                have HRW := Lib.hid hraw
                clear hraw
                go_wp2_with fail
                go_roundw
                case rel => exact ⟨j + 1, by omega, by go_num, fun _ => ⟨g, rfl, hg, HRW.out.set _ _⟩, ((Mod.of_ext (S := []) HE10.out).setCell (.inr hg) _).to_ext (by simp)⟩
                case measure => simp [intOf]; omega
              · obtain ⟨w10, rfl⟩ : ∃ w10 : World, w10 = wr := ⟨_, rfl⟩
                clear HO2
                go_wp2_with fail
                have HT2 := Lib.hid (HT1.out.ext (HE8.out.trans HE10.out))
                clear HE8 HE10 HT1
                refine (two_table HT2.out HG.out).mono ?_
                intro e w11 q
                unfold TableOwn at q
                obtain ⟨q, qc, rfl, ho, hE⟩ := q
                have ho1 := HG.out.o0
                have ho2 := HG.out.ol
                obtain ⟨_, hq1, hq2, hraw⟩ := own_ints ho ho1
                have eB : Ext w11 (w11.alloc (.cells #[i64 s.ep, i64 s.n, .slice (some ⟨q, 0, none⟩) s.own.length qc] 28)) := by (refine Mod.to_ext (S := []) ?_ (by simp); repeat (first | (with_reducible exact Mod.refl _ _) | (with_reducible assumption) | (with_reducible refine Mod.alloc ?_ _) | (with_reducible refine Mod.drew ?_) | (with_reducible refine Mod.drewN ?_ _)))
                have HE11 := Lib.hid (hE.trans eB)
                have HRW := Lib.hid (hraw.ext eB)
                have HB := Lib.hid (Blk.new w11 [i64 s.ep, i64 s.n, .slice (some ⟨q, 0, none⟩) s.own.length qc] 28)
                have hqT : w11.heap.size ≠ q := by omega
                have hTo : w10.heap.size ≤ w11.heap.size := hE.size
                obtain ⟨t2, t2f⟩ := HB.out.read
                have t22 := t2 2
                simp only [List.getElem?_cons_succ, List.getElem?_cons_zero] at t22
                clear ho hE hraw eB t2
                go_wp2_with fail
                revert HE11 HRW HB hqT hTo t22 t2f
                generalize w11.heap.size = T
                generalize hW : World.alloc w11 _ = w12
                clear hW
                intro HE11 HRW HB hqT hTo t22 t2f
                clear t22 t2f
                generalize s.own.length = no at HRW HB ho1 ho2 ⊢
                go_loopw [19] (fun i wr => ∃ j : Nat, j ≤ no ∧ i = i64 j ∧ RawRow wr q no ∧ Blk wr T [i64 s.ep, i64 s.n, .slice (some ⟨q, 0, none⟩) no qc] 28 ∧ Ext w10 wr) (fun i _ => no - (intOf i).toNat)
                case atStart => exact ⟨0, by omega, rfl, HRW.out, HB.out, HE11.out⟩
                case round =>
                  obtain ⟨j, hj, rfl, hR, hB, hE⟩ := hrel
                  obtain ⟨t2, t2f⟩ := hB.read
                  have t22 := t2 2
                  simp only [List.getElem?_cons_succ, List.getElem?_cons_zero] at t22
                  have HB2 := Lib.hid hB
                  have HE12 := Lib.hid hE
                  clear hB hE t2 HE11 HRW HB
                  by_cases hlt3 : j < no
                  · obtain ⟨⟨v, hv⟩, hf⟩ := hR.at (i := j) hlt3
                    have HRW2 := Lib.hid hR
                    clear hR
                    go_wp2_with fail
                    go_roundw
                    case rel => exact ⟨j + 1, by omega, by go_num, HRW2.out.set _ _, HB2.out.set_other _ _ hqT, ((Mod.of_ext (S := []) HE12.out).setCell (.inr hq1) _).to_ext (by simp)⟩
                    case measure => simp [intOf]; omega
                  · obtain ⟨w13, rfl⟩ : ∃ w13 : World, w13 = wr := ⟨_, rfl⟩
                    clear hR HB2
                    go_wp2_with fail
                    have HT3 := Lib.hid (HT2.out.ext HE12.out)
                    clear HE12 HT2 t22 t2f
                    refine (two_ended HT3.out).mono ?_
                    rintro e w14 ⟨rfl, hE⟩
                    have HT4 := Lib.hid (HT3.out.ext hE)
                    clear hE HT3
                    obtain ⟨b0, off, rfl, _, hc, hx⟩ := (H0.out.ext HT4.out.out).at hlt
                    have hax : ∀ W', Ext w W' → rowAt W' ⟨b0, off + k * 28, none⟩ 28 = true ∧ cellsAt W' ⟨b0, off + k * 28, none⟩ 28 = (xs[k]).cells.toArray := by
                      intro W' hW
                      obtain ⟨b1, off1, h1, _, hc1, hx1⟩ := (H0.out.ext hW).at hlt
                      injection h1 with h1
                      injection h1 with h1 h2
                      subst h1; subst h2
                      exact rowAt_of hc1 hx1.cells_len
                    generalize xs[k] = x at hax hx
                    obtain ⟨l1, l2⟩ := hax w14 HT4.out.out
                    have HX := Lib.hid hx
                    have HAX := Lib.hid hax
                    obtain ⟨C, hC⟩ : ∃ C, C = x.cells.toArray := ⟨_, rfl⟩
                    rw [← hC] at l2
                    have HC := Lib.hid hC
                    clear hC hx hax hc
                    go_wp2_with fail
                    have O1 := two_one x HT4.out HG.out HX.out
                    rw [← HC.out] at O1
                    obtain ⟨y, hy⟩ : ∃ y, y = s.one x := ⟨_, rfl⟩
                    rw [← hy] at O1
                    have HY := Lib.hid hy
                    clear hy
                    refine O1.mono ?_
                    rintro e w15 ⟨rfl, hT5⟩
                    have hE15 : Ext w w15 := hT5.out
                    have HT5 := Lib.hid hT5
                    clear O1 hT5 l1 l2
                    obtain ⟨l1, l2⟩ := HAX.out w15 hE15
                    rw [← HC.out] at l2
                    go_wp2_with fail
                    have O1 := two_one x HT5.out.symm HG.out HX.out
                    rw [← HC.out, ← HY.out] at O1
                    refine O1.mono ?_
                    rintro e w16 ⟨rfl, hT6⟩
                    have HT6 := Lib.hid hT6.symm
                    have HI2 := Lib.hid (HI.out.one x)
                    rw [← HY.out] at HI2
                    clear O1 hT6 l1 l2
                    go_wp2_with fail
                    go_roundw
                    case rel => exact ⟨k + 1, by omega, by go_num, y.1, HT6.out, HI2.out⟩
                    case measure => simp [intOf]; omega
      · go_wp2_with fail
        refine (two_ended HT1.out).mono ?_
        rintro e w7 ⟨rfl, hE⟩
        have HT2 := Lib.hid (HT1.out.ext hE)
        clear hE HT1
        go_wp2_with fail
        refine (two_ended HT2.out.symm).mono ?_
        rintro e w8 ⟨rfl, hE⟩
        have HT3 := Lib.hid (HT2.out.ext hE)
        clear hE HT2
        go_wp2_with fail
        refine (two_table HT3.out HG.out).mono ?_
        intro e w9 q
        unfold TableOwn at q
        obtain ⟨q1, qc1, rfl, ho, hE⟩ := q
        have ho1 := HG.out.o0
        have ho2 := HG.out.ol
        have I1 := Lib.hid (own_ints ho ho1).1
        have HT4 := Lib.hid (HT3.out.ext hE)
        clear ho hE HT3
        go_wp2_with fail
        refine (two_table HT4.out.symm HG.out).mono ?_
        intro e w10 q
        unfold TableOwn at q
        obtain ⟨q2, qc2, rfl, ho, hE⟩ := q
        have I2 := Lib.hid (own_ints ho ho1).1
        have I1b := Lib.hid (I1.out.ext hE)
        have HT5 := Lib.hid (HT4.out.ext hE)
        clear ho hE HT4 I1
        have S := tsame_calls s.ep s.n s.ep s.n q1 0 qc1 q2 0 qc2 s.own s.own w10 (by omega) (by omega) I1b.out I2.out
        rw [show sameB s.ep s.n s.own s.ep s.n s.own = true by simp [sameB, eqB]] at S
        go_wp2_with fail
        refine S.mono ?_
        rintro e w11 ⟨rfl, hE⟩
        have HT6 := Lib.hid (HT5.out.ext hE)
        clear hE HT5 S I1b I2
        go_wp2_with fail
        refine (two_tick HT6.out HG.out HF.out hn1).mono ?_
        intro e w12 q
        unfold TickOwn at q
        obtain ⟨A1, k1, rfl, hP, _, hE⟩ := q
        have P1 := Lib.hid hP
        have HT7 := Lib.hid (HT6.out.ext hE)
        clear hP hE HT6
        go_wp2_with fail
        refine (two_tick HT7.out.symm HG.out HF.out hn1).mono ?_
        intro e w13 q
        unfold TickOwn at q
        obtain ⟨A2, k2, rfl, hP, _, hE⟩ := q
        have P2 := Lib.hid hP
        have P1b := Lib.hid (P1.out.ext hE)
        have HT8 := Lib.hid (HT7.out.ext hE)
        have hnt := tick_le s HG.out.l12 HI.out.n4
        clear hP hE HT7 P1
        go_wp2_with fail
        refine (packets_calls _ _ s.tick w13 P1b.out P2.out (by omega)).mono ?_
        rintro e w14 ⟨rfl, hE⟩
        have HT9 := Lib.hid (HT8.out.ext hE)
        clear hE HT8 P1b P2
        go_wp2_with fail
        go_ret
        exact ⟨rfl, HT9.out.out⟩
end
end Go.Proofs.YtchmhkdnegngdaaGreat
