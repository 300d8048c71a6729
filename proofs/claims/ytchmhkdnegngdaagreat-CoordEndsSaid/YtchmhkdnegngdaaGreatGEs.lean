/- CoordEnds: the walk. -/
import Derived.Test.YtchmhkdnegngdaaGreatGEt
set_option linter.unusedVariables false
set_option linter.unusedSimpArgs false
namespace Go.Proofs.YtchmhkdnegngdaaGreat
open Go.RowKit

section
theorem first_right3 (n m : Nat) (h1 : 1 ≤ n) (h2 : n ≤ 4) (h3 : 1 ≤ m) (h4 : m ≤ 8) : rightB 1 n (firstOwners n m) = true := by
  unfold rightB
  have hb : (firstOwners n m).any (badOwner n) = false := by
    rw [List.any_eq_false]
    intro x hx
    simp only [firstOwners, List.mem_map, List.mem_range] at hx
    obtain ⟨i, _, rfl⟩ := hx
    have := Nat.mod_lt i h1
    simp [badOwner]
    omega
  simp only [hb, firstOwners_len]
  simp
  omega



attribute [local go_sem ↓] ld62_pre in
attribute [local go_sem] ld62_run in
set_option maxRecDepth 100000 in
set_option maxHeartbeats 3200000 in
theorem ends_calls (nd sh : Nat) (hnd : nd < 256) (hsh : sh < 256) (A : Option Addr) (c : Nat) (xs : List Ac) (w : World) (h : Acts w A xs) :
    Calls Tryz.prog 7 #[.int .u8 nd, .int .u8 sh, .slice A xs.length c] w (fun e w' => e = .returned (.bool true) ∧ Ext w w') := by
  have H0 := Lib.hid h
  clear h
  go_enter Tryz.func7, Tryz.ntmps7
  go_wp2_with fail
  refine (awake_calls w).mono ?_
  rintro e w1 ⟨rfl, hE⟩
  have HE1 := Lib.hid hE
  clear hE
  go_wp2_with fail
  refine (great_calls A c xs w1 (H0.out.ext HE1.out)).mono ?_
  intro e w2 q
  unfold GreatPost at q
  obtain ⟨r, rfl, hr, hE⟩ := q
  have HE2 := Lib.hid (HE1.out.trans hE)
  have HR := Lib.hid hr
  clear hE hr HE1
  cases r with
  | true =>
    go_wp2_with fail
    go_ret
    exact ⟨rfl, HE2.out⟩
  | false =>
    have hlen := HR.out rfl
    go_wp2_with fail
    have T := tnew_calls (1 + nd % 4) (1 + sh % 8) w2 (by omega) (by omega) (by omega) (by omega)
    have hrt : rightB 1 (1 + nd % 4 : Nat) (firstOwners (1 + nd % 4) (1 + sh % 8)) = true := first_right3 _ _ (by omega) (by omega) (by omega) (by omega)
    rw [show (((1 + nd % 4 : Nat)) : Int) = 1 + (nd : Int) % 4 from by omega, show (((1 + sh % 8 : Nat)) : Int) = 1 + (sh : Int) % 8 from by omega] at T
    rw [show (((1 + nd % 4 : Nat)) : Int) = 1 + (nd : Int) % 4 from by omega] at hrt
    generalize firstOwners (1 + nd % 4) (1 + sh % 8) = ow at T hrt
    have HRT := Lib.hid hrt
    obtain ⟨_, _, _, ho1, ho8, _⟩ := rightB_true hrt
    refine T.mono ?_
    intro e w4 q
    unfold NewTable2 at q
    obtain ⟨g, gc, rfl, hI, hg1, hg2, hE⟩ := q
    have HE4 := Lib.hid (HE2.out.trans hE)
    have HI := Lib.hid hI
    clear hI hE T hrt HR
    go_wp2_with fail
    have e4 : Ext w4 (w4.alloc (.cells #[i64 1, i64 (1 + (nd : Int) % 4), .slice (some ⟨g, 0, none⟩) ow.length gc] 28)) := by (refine Mod.to_ext (S := []) ?_ (by simp); repeat (first | (with_reducible exact Mod.refl _ _) | (with_reducible assumption) | (with_reducible refine Mod.alloc ?_ _) | (with_reducible refine Mod.drew ?_) | (with_reducible refine Mod.drewN ?_ _)))
    have hI4 := HI.out.ext e4
    have hX4 := HE4.out.trans e4
    generalize hN : w4.heap.size = N
    generalize hW : w4.alloc (.cells #[i64 1, i64 (1 + (nd : Int) % 4), .slice (some ⟨g, 0, none⟩) ow.length gc] 28) = W4 at hI4 hX4 ⊢
    have HI4 := Lib.hid hI4
    have HX4 := Lib.hid hX4
    clear hW hN e4 hI4 hX4 HE4 HI hg1 hg2
    refine (cnew_calls 1 (1 + (nd : Int) % 4) g 0 gc ow W4 (by omega) HI4.out HRT.out).mono ?_
    intro e w5 q
    unfold NewPost at q
    obtain ⟨a, Fa, rfl, hCa, hFa, hE⟩ := q
    have HT := Lib.hid (Held.made HX4.out hCa hFa hE)
    have HIV := Lib.hid (Inv.new HRT.out)
    clear hCa hFa hE HI4 HX4 HRT
    go_wp2_with fail
    go_loopw [11] (fun i wr => ∃ k : Nat, k ≤ xs.length ∧ i = i64 k ∧ ∃ s, Held w wr a s [] ∧ Inv 1 k s) (fun i _ => xs.length - (intOf i).toNat)
    case atStart => exact ⟨0, by omega, rfl, _, HT.out, HIV.out⟩
    case round =>
      obtain ⟨k, hk, rfl, s, hT, hI⟩ := hrel
      have HG := Lib.hid (hI.good (by omega) (by omega))
      have HF := Lib.hid (hI.fine (by omega) (by omega))
      have HI := Lib.hid hI
      obtain ⟨wo, rfl⟩ : ∃ wo : World, wo = wr := ⟨_, rfl⟩
      have HT1 := Lib.hid hT
      have hn1 := hI.n1
      clear hT hI HT HIV
      by_cases hlt : k < xs.length
      · obtain ⟨b0, off, rfl, _, hc, hx⟩ := (H0.out.ext HT1.out.out).at hlt
        obtain ⟨l1, l2⟩ := rowAt_of hc hx.cells_len
        generalize xs[k] = x at l2 hx
        have HX := Lib.hid hx
        obtain ⟨C, hC⟩ : ∃ C, C = x.cells.toArray := ⟨_, rfl⟩
        rw [← hC] at l2
        have HC := Lib.hid hC
        clear hC hx hc
        go_wp2_with fail
        have O1 := held_one x HT1.out HG.out HX.out
        rw [← HC.out] at O1
        obtain ⟨z, hz⟩ : ∃ z, z = s.one x := ⟨_, rfl⟩
        rw [← hz] at O1
        refine O1.mono ?_
        rintro e w6 ⟨rfl, hT2, _⟩
        have HT2 := Lib.hid hT2
        have HI2 := Lib.hid (HI.out.one x)
        rw [← hz] at HI2
        clear O1 hT2 l1 l2 hz
        go_wp2_with fail
        go_roundw
        case rel => exact ⟨k + 1, by omega, by go_num, z.1, HT2.out, HI2.out⟩
        case measure => simp [intOf]; omega
      · go_wp2_with fail
        refine (held_moves2 HT1.out HG.out).mono ?_
        intro e w6 q
        unfold MovesOwn at q
        obtain ⟨Am, cm, rfl, hMv, hO, hE⟩ := q
        have HMV := Lib.hid hMv
        have HT2 := Lib.hid (HT1.out.more hE (kOf s.L.length Am) hO.blk)
        clear hMv hO hE HT1
        go_wp2_with fail
        refine (held_ended2 HT2.out).mono ?_
        rintro e w7 ⟨rfl, hE⟩
        have HMV2 := Lib.hid (HMV.out.ext hE)
        have HT3 := Lib.hid (HT2.out.ext hE)
        clear hE HT2 HMV
        generalize hK : kOf s.L.length Am ++ [] = K at HT3
        have HK := Lib.hid hK
        clear hK
        go_wp2_with fail
        go_loopw [15] (fun i wr => ∃ j : Nat, j ≤ 3 ∧ i = i64 j ∧ Held w wr a (itn j s) K ∧ MvRow wr (.slice Am s.L.length cm) s.L) (fun i _ => 3 - (intOf i).toNat)
        case atStart => exact ⟨0, by omega, rfl, HT3.out, HMV2.out⟩
        case round =>
          obtain ⟨j, hj, rfl, hT, hM⟩ := hrel
          obtain ⟨wp, rfl⟩ : ∃ wp : World, wp = wr := ⟨_, rfl⟩
          have HT4 := Lib.hid hT
          have HMV3 := Lib.hid hM
          have hIt := HI.out.itn j
          have HGt := Lib.hid (hIt.good (by omega) (by push_cast; omega))
          have HFt := Lib.hid (hIt.fine (by omega) (by push_cast; omega))
          have HIt := Lib.hid hIt
          have hnt := hIt.n1
          clear hT hM hIt HT3 HMV2
          by_cases hlt2 : j < 3
          · have hjj : (j : Int) < 3 := by omega
            generalize ht : itn j s = t at HT4 HGt HFt HIt hnt
            have HTJ := Lib.hid ht
            clear ht
            go_wp2_with fail
            refine (held_tick2 HT4.out HGt.out HFt.out hnt).mono ?_
            intro e w8 q
            unfold TickOwn at q
            obtain ⟨At, ct, rfl, hP, hO, hE⟩ := q
            have HP := Lib.hid hP
            have HT5 := Lib.hid (HT4.out.more hE (kOf t.tick.length At) hO.blk)
            have HMV4 := Lib.hid (HMV3.out.ext hE)
            have hn9 := tick_le t HGt.out.l12 HIt.out.n4
            have hp0 := tick_pos t hnt
            clear hP hO hE HT4 HMV3
            generalize hnn : t.tick.length = nt at hn9 hp0 HT5 ⊢
            have HNN := Lib.hid hnn
            clear hnn
            go_wp2_with fail
            go_loopw [17] (fun i wr => ∃ m : Nat, m ≤ nt ∧ i = i64 m ∧ Held w wr a (((tickMs t).take m).foldl ans t) (kOf nt At ++ K) ∧ PkRow wr (.slice At t.tick.length ct) t.tick ∧ MvRow wr (.slice Am s.L.length cm) s.L) (fun i _ => nt - (intOf i).toNat)
            case atStart => exact ⟨0, by omega, rfl, HT5.out, HP.out.ext (Below.refl _ _), HMV4.out⟩
            case round =>
              obtain ⟨i, hi, rfl, hT, hPk, hM⟩ := hrel
              obtain ⟨wq, rfl⟩ : ∃ wq : World, wq = wr := ⟨_, rfl⟩
              have HT6 := Lib.hid hT
              have HPK := Lib.hid hPk
              have HMV5 := Lib.hid hM
              clear hT hPk hM HT5 HP HMV4
              by_cases hlt3 : i < nt
              · obtain ⟨g, d, m, rfl, hg, hmm, c1, c2⟩ := HPK.out.pkt HNN.out hlt3
                have hok := tickMs_ok HFt.out _ (List.mem_of_getElem? hmm)
                have hiu : Inv 1 (k + 32 * j + i) (((tickMs t).take i).foldl ans t) := by
                  have := Inv.anss ((tickMs t).take i) HIt.out
                  exact this.mono (by rw [List.length_take]; omega)
                have hfu := foldl_take_succ ans (tickMs t) t hmm
                generalize ((tickMs t).take i).foldl ans t = u at HT6 hiu hfu
                have HGu := Lib.hid (hiu.good (by omega) (by push_cast; omega))
                have HFU := Lib.hid hfu
                have HOK := Lib.hid hok
                clear hiu hfu hok hmm
                go_wp2_with fail
                refine (mof_calls m wq HOK.out).mono ?_
                intro e w9 q
                unfold ReadOwn at q
                obtain ⟨o, rfl, hsl, _, hE⟩ := q
                have hcs := cells_ok m o hsl.one
                obtain ⟨C, hC⟩ : ∃ C, C = (m.cells o).toArray := ⟨_, rfl⟩
                rw [← hC] at hcs ⊢
                have hinfo : (Tryz.prog.info? 40).map (·.size) = some C.size := by rw [hcs.1]; kernel_rfl
                have G9 := Lib.hid (heap_alloc_new w9 zlit)
                have hbx := box_row (w := w9) hC
                have eX : Ext wq ((w9.alloc zlit).setRow w9.heap.size C) := (((Mod.of_ext (S := []) hE).alloc zlit).setRow (.inr hE.size) C).to_ext (by simp)
                have HT7 := Lib.hid (HT6.out.top (b := w9.heap.size) eX hE.size hbx.lt)
                have HPK2 := Lib.hid (HPK.out.ext eX)
                have HMV6 := Lib.hid (HMV5.out.ext eX)
                have x1 := (eX.cell (p := ⟨g, i * 3 + 1, none⟩) hg).trans c1
                have k0 := hbx.read.1 0
                have k1 := hbx.read.1 1
                have k2 := hbx.read.1 2
                have k3 := hbx.read.1 3
                have HBX := Lib.hid hbx
                have HINF := Lib.hid hinfo
                have HCS := Lib.hid hcs
                clear hE hcs hC hinfo hsl eX c1 c2 HT6 HPK HMV5 HOK hbx
                cases m with
                | table e1 e2 e3 =>
                  simp only [Ms.cells, mcells, List.getElem?_cons_succ, List.getElem?_cons_zero] at k0 k1 k2 k3
                  go_wp2_with (refine wpList_store_row rfl 40 (.tmp 18) (.tmp 88) rfl w9.heap.size C rfl rfl 40 _ G9.out HINF.out (by rw [HCS.out.1]; rfl) HCS.out.2 ?_)
                  go_roundw
                  case rel => exact ⟨i + 1, by omega, by go_num, by rw [HFU.out]; exact HT7.out.drop, HPK2.out, HMV6.out⟩
                  case measure => simp [intOf]; omega
                | prep e1 e2 e3 =>
                  simp only [Ms.cells, mcells, List.getElem?_cons_succ, List.getElem?_cons_zero] at k0 k1 k2 k3
                  go_wp2_with (refine wpList_store_row rfl 40 (.tmp 18) (.tmp 88) rfl w9.heap.size C rfl rfl 40 _ G9.out HINF.out (by rw [HCS.out.1]; rfl) HCS.out.2 ?_)
                  have hfin : ∀ w10 w11 u', Ext ((w9.alloc zlit).setRow w9.heap.size C) w10 → Held w w11 a u' (w9.heap.size :: (kOf nt (some ⟨g, 0, none⟩) ++ K)) → Stay w10 w11 (w9.heap.size :: (kOf nt (some ⟨g, 0, none⟩) ++ K)) → PkRow w11 (.slice (some ⟨g, 0, none⟩) t.tick.length ct) t.tick ∧ MvRow w11 (.slice Am s.L.length cm) s.L := by
                    intro w10 w11 u' hX hH hST
                    have hkl := hH.klt
                    refine ⟨(HPK2.out.ext hX).stay (by rw [HNN.out]; exact hp0) (fun k hk => hkl k (by rw [HNN.out] at hk; simp [hk])) (fun k hk => hST k (by rw [HNN.out] at hk; simp [hk])), (HMV6.out.ext hX).stay (fun k hk => hkl k ?_) (fun k hk => hST k ?_)⟩
                    · have : k ∈ K := by rw [← HK.out]; simp [hk]
                      simp [this]
                    · have : k ∈ K := by rw [← HK.out]; simp [hk]
                      simp [this]
                  have HFIN := Lib.hid hfin
                  clear hfin HPK2 HMV6 HINF HCS HBX G9
                  generalize hW : (w9.alloc zlit).setRow w9.heap.size C = W at HFIN HT7 x1 k0 k1 k2 k3 ⊢
                  generalize hT9 : w9.heap.size = T at HFIN HT7 k0 k1 k2 k3 ⊢
                  clear hW hT9
                  have HED := Lib.hid (show Ext W W.drew by (refine Mod.to_ext (S := []) ?_ (by simp); repeat (first | (with_reducible exact Mod.refl _ _) | (with_reducible assumption) | (with_reducible refine Mod.alloc ?_ _) | (with_reducible refine Mod.drew ?_) | (with_reducible refine Mod.drewN ?_ _))))
                  have hTW := World.block_lt_of_cell? W _ k0
                  have hgW := World.block_lt_of_cell? W _ x1
                  have hmT : T ∈ T :: (kOf nt (some ⟨g, 0, none⟩) ++ K) := by simp
                  have RM := fun W' => mready_calls (e1 : Int) (e2 : Int) 1 W'
                  go_region_held3 (fun w' => w'.cell? ⟨T, 3, none⟩ = some (i64 e3) ∧ w'.cell? ⟨T, 1, none⟩ = some (i64 e1) ∧ w'.cell? ⟨T, 2, none⟩ = some (i64 e2)) (first | assumption | (refine ⟨?_, ?_, ?_⟩ <;> assumption)) ((first
                    | ((with_reducible refine (RM _).mono ?_); rintro e w10 ⟨rfl, hX⟩; have k3' := (hX.cell (p := ⟨T, 3, none⟩) hTW).trans k3; have k1' := (hX.cell (p := ⟨T, 1, none⟩) hTW).trans k1; have k2' := (hX.cell (p := ⟨T, 2, none⟩) hTW).trans k2; have HX10 := Lib.hid (HED.out.trans hX); have RH := held_handle (e3 : Int) 10 (e1 : Int) (e2 : Int) 1 (ncells 10 (e1 : Int) (e2 : Int) 1).toArray (ncells_msg _ _ _ _) (HT7.out.ext HX10.out) HGu.out; clear hX)
                    | ((with_reducible refine RH.mono ?_); rintro e w11 ⟨rfl, hT9, hST⟩; have k3'' := cell_stay2 k3' hST hmT; have k1'' := cell_stay2 k1' hST hmT; have k2'' := cell_stay2 k2' hST hmT; have HT9 := Lib.hid hT9; have HF9 := Lib.hid (HFIN.out w10 w11 _ HX10.out hT9 hST); clear hT9 hST RH)))
                  go_wp2_with fail
                  go_roundw
                  case rel => exact ⟨i + 1, by omega, by go_num, by rw [HFU.out]; exact HT9.out.drop, HF9.out.1, HF9.out.2⟩
                  case measure => simp [intOf]; omega
                | commit e1 e2 e3 e4 e5 =>
                  simp only [Ms.cells, mcells, List.getElem?_cons_succ, List.getElem?_cons_zero] at k0 k1 k2 k3
                  go_wp2_with (refine wpList_store_row rfl 40 (.tmp 18) (.tmp 88) rfl w9.heap.size C rfl rfl 40 _ G9.out HINF.out (by rw [HCS.out.1]; rfl) HCS.out.2 ?_)
                  have hfin : ∀ w10 w11 u', Ext ((w9.alloc zlit).setRow w9.heap.size C) w10 → Held w w11 a u' (w9.heap.size :: (kOf nt (some ⟨g, 0, none⟩) ++ K)) → Stay w10 w11 (w9.heap.size :: (kOf nt (some ⟨g, 0, none⟩) ++ K)) → PkRow w11 (.slice (some ⟨g, 0, none⟩) t.tick.length ct) t.tick ∧ MvRow w11 (.slice Am s.L.length cm) s.L := by
                    intro w10 w11 u' hX hH hST
                    have hkl := hH.klt
                    refine ⟨(HPK2.out.ext hX).stay (by rw [HNN.out]; exact hp0) (fun k hk => hkl k (by rw [HNN.out] at hk; simp [hk])) (fun k hk => hST k (by rw [HNN.out] at hk; simp [hk])), (HMV6.out.ext hX).stay (fun k hk => hkl k ?_) (fun k hk => hST k ?_)⟩
                    · have : k ∈ K := by rw [← HK.out]; simp [hk]
                      simp [this]
                    · have : k ∈ K := by rw [← HK.out]; simp [hk]
                      simp [this]
                  have HFIN := Lib.hid hfin
                  clear hfin HPK2 HMV6 HINF HCS HBX G9
                  generalize hW : (w9.alloc zlit).setRow w9.heap.size C = W at HFIN HT7 x1 k0 k1 k2 k3 ⊢
                  generalize hT9 : w9.heap.size = T at HFIN HT7 k0 k1 k2 k3 ⊢
                  clear hW hT9
                  have HED := Lib.hid (show Ext W W.drew by (refine Mod.to_ext (S := []) ?_ (by simp); repeat (first | (with_reducible exact Mod.refl _ _) | (with_reducible assumption) | (with_reducible refine Mod.alloc ?_ _) | (with_reducible refine Mod.drew ?_) | (with_reducible refine Mod.drewN ?_ _))))
                  have hTW := World.block_lt_of_cell? W _ k0
                  have hgW := World.block_lt_of_cell? W _ x1
                  have hnt0 : ¬ nt = 0 := by omega
                  have hmg : g ∈ T :: (kOf nt (some ⟨g, 0, none⟩) ++ K) := by simp [kOf, blkOf, hnt0]
                  have hmT : T ∈ T :: (kOf nt (some ⟨g, 0, none⟩) ++ K) := by simp
                  have RM := fun W' => mdone_calls (e1 : Int) (e2 : Int) W'
                  go_region_held3 (fun w' => w'.cell? ⟨g, i * 3 + 1, none⟩ = some (i64 d) ∧ w'.cell? ⟨T, 1, none⟩ = some (i64 e1) ∧ w'.cell? ⟨T, 2, none⟩ = some (i64 e2)) (first | assumption | (refine ⟨?_, ?_, ?_⟩ <;> assumption)) ((first
                    | ((with_reducible refine (RM _).mono ?_); rintro e w10 ⟨rfl, hX⟩; have x1' := (hX.cell (p := ⟨g, i * 3 + 1, none⟩) hgW).trans x1; have k1' := (hX.cell (p := ⟨T, 1, none⟩) hTW).trans k1; have k2' := (hX.cell (p := ⟨T, 2, none⟩) hTW).trans k2; have HX10 := Lib.hid (HED.out.trans hX); have RH := held_handle d 13 (e1 : Int) (e2 : Int) 0 (ncells 13 (e1 : Int) (e2 : Int) 0).toArray (ncells_msg _ _ _ _) (HT7.out.ext HX10.out) HGu.out; clear hX)
                    | ((with_reducible refine RH.mono ?_); rintro e w11 ⟨rfl, hT9, hST⟩; have x1'' := cell_stay2 x1' hST hmg; have k1'' := cell_stay2 k1' hST hmT; have k2'' := cell_stay2 k2' hST hmT; have HT9 := Lib.hid hT9; have HF9 := Lib.hid (HFIN.out w10 w11 _ HX10.out hT9 hST); clear hT9 hST RH)))
                  go_wp2_with fail
                  go_roundw
                  case rel => exact ⟨i + 1, by omega, by go_num, by rw [HFU.out]; exact HT9.out.drop, HF9.out.1, HF9.out.2⟩
                  case measure => simp [intOf]; omega
                | abort e1 e2 =>
                  simp only [Ms.cells, mcells, List.getElem?_cons_succ, List.getElem?_cons_zero] at k0 k1 k2 k3
                  go_wp2_with (refine wpList_store_row rfl 40 (.tmp 18) (.tmp 88) rfl w9.heap.size C rfl rfl 40 _ G9.out HINF.out (by rw [HCS.out.1]; rfl) HCS.out.2 ?_)
                  have hfin : ∀ w10 w11 u', Ext ((w9.alloc zlit).setRow w9.heap.size C) w10 → Held w w11 a u' (w9.heap.size :: (kOf nt (some ⟨g, 0, none⟩) ++ K)) → Stay w10 w11 (w9.heap.size :: (kOf nt (some ⟨g, 0, none⟩) ++ K)) → PkRow w11 (.slice (some ⟨g, 0, none⟩) t.tick.length ct) t.tick ∧ MvRow w11 (.slice Am s.L.length cm) s.L := by
                    intro w10 w11 u' hX hH hST
                    have hkl := hH.klt
                    refine ⟨(HPK2.out.ext hX).stay (by rw [HNN.out]; exact hp0) (fun k hk => hkl k (by rw [HNN.out] at hk; simp [hk])) (fun k hk => hST k (by rw [HNN.out] at hk; simp [hk])), (HMV6.out.ext hX).stay (fun k hk => hkl k ?_) (fun k hk => hST k ?_)⟩
                    · have : k ∈ K := by rw [← HK.out]; simp [hk]
                      simp [this]
                    · have : k ∈ K := by rw [← HK.out]; simp [hk]
                      simp [this]
                  have HFIN := Lib.hid hfin
                  clear hfin HPK2 HMV6 HINF HCS HBX G9
                  generalize hW : (w9.alloc zlit).setRow w9.heap.size C = W at HFIN HT7 x1 k0 k1 k2 k3 ⊢
                  generalize hT9 : w9.heap.size = T at HFIN HT7 k0 k1 k2 k3 ⊢
                  clear hW hT9
                  have HED := Lib.hid (show Ext W W.drew by (refine Mod.to_ext (S := []) ?_ (by simp); repeat (first | (with_reducible exact Mod.refl _ _) | (with_reducible assumption) | (with_reducible refine Mod.alloc ?_ _) | (with_reducible refine Mod.drew ?_) | (with_reducible refine Mod.drewN ?_ _))))
                  have hTW := World.block_lt_of_cell? W _ k0
                  have hgW := World.block_lt_of_cell? W _ x1
                  have hnt0 : ¬ nt = 0 := by omega
                  have hmg : g ∈ T :: (kOf nt (some ⟨g, 0, none⟩) ++ K) := by simp [kOf, blkOf, hnt0]
                  have hmT : T ∈ T :: (kOf nt (some ⟨g, 0, none⟩) ++ K) := by simp
                  have RM := fun W' => mdone_calls (e1 : Int) (e2 : Int) W'
                  go_region_held3 (fun w' => w'.cell? ⟨g, i * 3 + 1, none⟩ = some (i64 d) ∧ w'.cell? ⟨T, 1, none⟩ = some (i64 e1) ∧ w'.cell? ⟨T, 2, none⟩ = some (i64 e2)) (first | assumption | (refine ⟨?_, ?_, ?_⟩ <;> assumption)) ((first
                    | ((with_reducible refine (RM _).mono ?_); rintro e w10 ⟨rfl, hX⟩; have x1' := (hX.cell (p := ⟨g, i * 3 + 1, none⟩) hgW).trans x1; have k1' := (hX.cell (p := ⟨T, 1, none⟩) hTW).trans k1; have k2' := (hX.cell (p := ⟨T, 2, none⟩) hTW).trans k2; have HX10 := Lib.hid (HED.out.trans hX); have RH := held_handle d 13 (e1 : Int) (e2 : Int) 0 (ncells 13 (e1 : Int) (e2 : Int) 0).toArray (ncells_msg _ _ _ _) (HT7.out.ext HX10.out) HGu.out; clear hX)
                    | ((with_reducible refine RH.mono ?_); rintro e w11 ⟨rfl, hT9, hST⟩; have x1'' := cell_stay2 x1' hST hmg; have k1'' := cell_stay2 k1' hST hmT; have k2'' := cell_stay2 k2' hST hmT; have HT9 := Lib.hid hT9; have HF9 := Lib.hid (HFIN.out w10 w11 _ HX10.out hT9 hST); clear hT9 hST RH)))
                  go_wp2_with fail
                  go_roundw
                  case rel => exact ⟨i + 1, by omega, by go_num, by rw [HFU.out]; exact HT9.out.drop, HF9.out.1, HF9.out.2⟩
                  case measure => simp [intOf]; omega
              · obtain ⟨wx, rfl⟩ : ∃ wx : World, wx = wq := ⟨_, rfl⟩
                have hall : ((tickMs t).take i).foldl ans t = itn (j + 1) s := by
                  have hl : (tickMs t).length = nt := by have := HNN.out; rw [tick_ms, List.length_map] at this; exact this
                  rw [List.take_of_length_le (by omega)]
                  show _ = rnd (itn j s)
                  rw [HTJ.out]; rfl
                have hTn := HT6.out.less (K' := K) (fun k hk => by simp [hk])
                rw [hall] at hTn
                have HTN := Lib.hid hTn
                clear hall hTn HT6 HPK
                go_wp2_with fail
                go_roundw
                case rel => exact ⟨j + 1, by omega, by go_num, HTN.out, HMV5.out⟩
                case measure => simp [intOf]; omega
          · have hj3 : j = 3 := by omega
            subst hj3
            have h3 := three_rounds HI.out (by omega)
            have hright := HIt.out.right
            have hlenL := HI.out.len
            have hck := HI.out.ck
            have hc0 := HI.out.c0
            have hak := HI.out.ak
            have ha0 := HI.out.a0
            change (itn 3 s).L = [] ∧ (itn 3 s).com = s.com + cN s.L ∧ (itn 3 s).ab = s.ab + cA s.L ∧ ∀ x ∈ s.L, (itn 3 s).own.getD x.part.toNat 0 = if x.st = 3 then x.fr else x.dst at h3
            have hol : (itn 3 s).own.length = s.own.length := by
              exact itn_own HI.out (by omega)
            generalize itn 3 s = t at HT4 HGt HFt HIt hnt h3 hright hol
            obtain ⟨hL0, hcom, hab, hown⟩ := h3
            have HCOM := Lib.hid hcom
            have HAB := Lib.hid hab
            have HOWN := Lib.hid hown
            have HL0 := Lib.hid hL0
            have HRT := Lib.hid hright
            have HOL := Lib.hid hol
            clear hcom hab hown hL0 hright hol
            go_wp2_with fail
            refine (held_ended2 HT4.out).mono ?_
            rintro e w8 ⟨rfl, hE⟩
            have HT5 := Lib.hid (HT4.out.ext hE)
            have HMV4 := Lib.hid (HMV3.out.ext hE)
            clear hE HT4 HMV3
            go_wp2_with fail
            refine (held_table2 HT5.out HGt.out).mono ?_
            intro e w9 q
            unfold TableOwn at q
            obtain ⟨q1, qc1, rfl, ho, hE⟩ := q
            have ho1 := HGt.out.o0
            have ho2 := HGt.out.ol
            obtain ⟨hI1, hq1, hq2, _⟩ := own_ints ho ho1
            have eT : Ext w9 (w9.alloc (.cells #[i64 t.ep, i64 t.n, .slice (some ⟨q1, 0, none⟩) t.own.length qc1] 28)) := by (refine Mod.to_ext (S := []) ?_ (by simp); repeat (first | (with_reducible exact Mod.refl _ _) | (with_reducible assumption) | (with_reducible refine Mod.alloc ?_ _) | (with_reducible refine Mod.drew ?_) | (with_reducible refine Mod.drewN ?_ _)))
            have HI1 := Lib.hid (hI1.ext eT)
            have HMV5 := Lib.hid (HMV4.out.ext (hE.trans eT))
            have HT6 := Lib.hid (HT5.out.ext (hE.trans eT))
            have HB22 := Lib.hid (Blk.new w9 [i64 t.ep, i64 t.n, .slice (some ⟨q1, 0, none⟩) t.own.length qc1] 28)
            clear ho hE hI1 eT HMV4 HT5
            go_wp2_with fail
            revert HI1 HMV5 HT6 HB22
            generalize w9.heap.size = T22
            generalize hW : World.alloc w9 _ = w10
            clear hW
            intro HI1 HMV5 HT6 HB22
            go_loopw [24, 23] (fun i th wr => ∃ m : Nat, m ≤ s.L.length ∧ i = i64 m ∧ th = i64 (cN (s.L.take m) : Nat) ∧ Ext w10 wr) (fun i _ _ => s.L.length - (intOf i).toNat)
            case atStart => exact ⟨0, by omega, rfl, rfl, Below.refl _ _⟩
            case round =>
              obtain ⟨m, hm, rfl, rfl, hE⟩ := hrel
              have HE := Lib.hid hE
              have hcl := cN_le (s.L.take m)
              have hcl2 : (s.L.take m).length ≤ m := List.length_take_le _ _
              by_cases hlt3 : m < s.L.length
              · obtain ⟨gb, rfl, hgb, hc⟩ := HMV5.out.form hlt3
                have a1 := (hE.cell (p := ⟨gb, m * 6 + 1, none⟩) hgb).trans (hc m hlt3 1 _ rfl)
                have a2 := (hE.cell (p := ⟨gb, m * 6 + 2, none⟩) hgb).trans (hc m hlt3 2 _ rfl)
                have a3 := (hE.cell (p := ⟨gb, m * 6 + 3, none⟩) hgb).trans (hc m hlt3 3 _ rfl)
                have a4 := (hE.cell (p := ⟨gb, m * 6 + 4, none⟩) hgb).trans (hc m hlt3 4 _ rfl)
                have hxm : s.L[m] ∈ s.L := List.getElem_mem hlt3
                have hmo := HI.out.mvs _ hxm
                have how := HOWN.out _ hxm
                have hcs := cN_succ hlt3
                generalize s.L[m] = x at a1 a2 a3 a4 hxm hmo how hcs
                have hov : ownerV t.ep t.n t.own x.part = (if x.st = 3 then x.fr else x.dst, true) := by
                  unfold ownerV
                  rw [if_pos ⟨HRT.out, hmo.p0, by rw [HOL.out]; exact hmo.pl⟩, how]
                have HCS := Lib.hid hcs
                obtain ⟨s0, s1, s2⟩ := blk3 ((HB22.out.ext hE).ext (show Ext wr wr.drew by (refine Mod.to_ext (S := []) ?_ (by simp); repeat (first | (with_reducible exact Mod.refl _ _) | (with_reducible assumption) | (with_reducible refine Mod.alloc ?_ _) | (with_reducible refine Mod.drew ?_) | (with_reducible refine Mod.drewN ?_ _)))))
                have OWN : ∀ W', Ext w10 W' → Calls Tryz.prog 36 #[.agg #[i64 t.ep, i64 t.n, .slice (some ⟨q1, 0, none⟩) t.own.length qc1], i64 x.part] W' (fun e w' => e = .returned (.tuple #[i64 (if x.st = 3 then x.fr else x.dst), .bool true]) ∧ Ext W' w') := by
                  intro W' hX
                  have := owner_calls t.ep t.n q1 0 qc1 t.own x.part W' (by omega) (HI1.out.ext hX)
                  rw [hov] at this
                  exact this
                have HOW := Lib.hid OWN
                have hED : Ext wr wr.drew := by (refine Mod.to_ext (S := []) ?_ (by simp); repeat (first | (with_reducible exact Mod.refl _ _) | (with_reducible assumption) | (with_reducible refine Mod.alloc ?_ _) | (with_reducible refine Mod.drew ?_) | (with_reducible refine Mod.drewN ?_ _)))
                have RO := OWN wr.drew (hE.trans hED)
                have HED := Lib.hid hED
                clear hE how hcs hov OWN hxm hmo hc hED
                have hB1 := World.block_lt_of_cell? wr _ a1
                by_cases h3 : x.st = 3
                all_goals
                  have H3 := Lib.hid h3
                  have q3 : (x.st == 3) = decide (x.st = 3) := by by_cases e : x.st = 3 <;> simp [e]
                  have q3n : (x.st != 3) = decide (¬ x.st = 3) := by by_cases e : x.st = 3 <;> simp [e]
                  simp only [h3, decide_true, decide_false, not_true_eq_false, not_false_eq_true, if_true, if_false] at q3 q3n RO
                  clear h3
                  go_wp2_with fail
                  go_region_held3 (fun w' => (w'.cell? ⟨T22, 0, none⟩ = some (i64 t.ep) ∧ w'.cell? ⟨T22, 1, none⟩ = some (i64 t.n) ∧ w'.cell? ⟨T22, 2, none⟩ = some (.slice (some ⟨q1, 0, none⟩) t.own.length qc1)) ∧ w'.cell? ⟨gb, m * 6 + 1, none⟩ = some (i64 x.part)) (first | assumption | (refine ⟨⟨?_, ?_, ?_⟩, ?_⟩ <;> assumption)) ((first
                    | ((with_reducible refine RO.mono ?_); rintro e w11 ⟨rfl, hX⟩; have HX11 := Lib.hid (HE.out.trans (HED.out.trans hX)); have b1 := (hX.cell (p := ⟨gb, m * 6 + 1, none⟩) hB1).trans a1; have b2 := (hX.cell (p := ⟨gb, m * 6 + 2, none⟩) hB1).trans a2; have b3 := (hX.cell (p := ⟨gb, m * 6 + 3, none⟩) hB1).trans a3; have b4 := (hX.cell (p := ⟨gb, m * 6 + 4, none⟩) hB1).trans a4; clear hX s0 s1 s2; obtain ⟨s0, s1, s2⟩ := blk3 (HB22.out.ext HX11.out))))
                  go_wp2_with fail
                  refine ⟨⟨m + 1, by omega, by go_num, ?_, HX11.out⟩, by simp [intOf]; omega⟩
                  rw [HCS.out]
                  first
                  | (rw [if_pos H3.out]; rfl)
                  | (rw [if_neg H3.out]; go_num)
              · obtain ⟨wz, rfl⟩ : ∃ wz : World, wz = wr := ⟨_, rfl⟩
                have hmL : s.L.take m = s.L := List.take_of_length_le (by omega)
                rw [hmL] at hcl ⊢
                have hna := cNA s.L
                have b1 : (t.com == s.com + ((cN s.L : Nat) : Int)) = true := by rw [HCOM.out]; simp
                have b2 : (t.ab == s.ab + ((s.L.length : Nat) : Int) - ((cN s.L : Nat) : Int)) = true := by rw [HAB.out]; simp; omega
                have hl0 : t.L.length = 0 := by rw [HL0.out]; rfl
                have HT7 := Lib.hid (HT6.out.ext hE)
                have R := held_moves2 (HT6.out.ext hE) HGt.out
                clear hE HMV5 HB22 HI1 hmL hna HT6
                go_wp2_with fail
                refine R.mono ?_
                intro e w11 q
                unfold MovesOwn at q
                obtain ⟨A9, c9, rfl, _, _, hE⟩ := q
                rw [hl0]
                have HT8 := Lib.hid (HT7.out.ext hE)
                clear R hE HT7 hl0
                go_wp2_with fail
                go_ret
                exact ⟨rfl, HT8.out.out⟩
end
end Go.Proofs.YtchmhkdnegngdaaGreat
