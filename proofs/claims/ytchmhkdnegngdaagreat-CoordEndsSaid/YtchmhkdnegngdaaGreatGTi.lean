/- coord: Tick. -/
import Derived.Test.YtchmhkdnegngdaaGreatGCt
set_option linter.unusedVariables false
set_option linter.unusedSimpArgs false
namespace Go.Proofs.YtchmhkdnegngdaaGreat
open Go.RowKit

section
def prepMs (x : Mv) : Ms := .prep x.mv.toNat x.part.toNat x.dst.toNat
def commitMs (s : St) (x : Mv) : Ms := .commit x.mv.toNat x.part.toNat s.ep.toNat s.n.toNat (s.own.map Int.toNat)
def abortMs (x : Mv) : Ms := .abort x.mv.toNat x.part.toNat
def tableMs (s : St) : Ms := .table s.ep.toNat s.n.toNat (s.own.map Int.toNat)

/-- does a side not know yet? -/
def unk (dn k : Int) : Bool := bits BinOp.and IntKind.i64 dn k == 0

def movePk (s : St) (x : Mv) : List (Int × ByteArray) :=
  if x.st = 1 then [(x.fr, dataS (prepMs x))]
  else if x.st = 2 then (if unk x.dn 1 && !unk x.dn 2 then [(x.fr, dataS (commitMs s x))] else []) ++ (if unk x.dn 2 then [(x.dst, dataS (commitMs s x))] else [])
  else (if unk x.dn 1 then [(x.fr, dataS (abortMs x))] else []) ++ (if unk x.dn 2 then [(x.dst, dataS (abortMs x))] else [])

/-- what goes out -/
def St.tick (s : St) : List (Int × ByteArray) :=
  s.L.flatMap (movePk s) ++ (List.range s.n.toNat).map (fun (i : Nat) => ((i : Int), dataS (tableMs s))) ++ (List.range 4).map (fun (i : Nat) => ((4 + i : Int), dataS (tableMs s)))

def sm (n : Int) : Prop := 0 ≤ n ∧ n ≤ 2147483647

/-- numbers that a writer takes -/
structure Fine (s : St) : Prop where
  ep : sm s.ep
  n : sm s.n
  n4 : s.n ≤ 4
  own : ∀ x ∈ s.own, sm x
  ne : s.own ≠ []
  l64 : s.own.length ≤ 64
  mv : ∀ x ∈ s.L, sm x.mv ∧ sm x.part ∧ sm x.dst

theorem sm.nat {n : Int} (h : sm n) : ∃ k : Nat, n = k ∧ small k := by
  obtain ⟨k, rfl⟩ := Int.eq_ofNat_of_zero_le h.1
  exact ⟨k, rfl, by unfold small; have := h.2; omega⟩

theorem ints_toNat {l : List Int} (h : ∀ x ∈ l, sm x) : ints (l.map Int.toNat) = l := by
  unfold ints
  rw [List.map_map]
  conv => rhs; rw [← List.map_id l]
  apply List.map_congr_left
  intro x hx
  have := (h x hx).1
  simp; omega

theorem cell_set_ne {w : World} {c i q j : Nat} {u v : Value} (h : w.cell? ⟨c, i, none⟩ = some v) (hne : ¬ c = q) : (w.setCell ⟨q, j, none⟩ u).cell? ⟨c, i, none⟩ = some v :=
  (World.cell?_of_block (Below.heap_setCell w ⟨q, j, none⟩ u c (fun e => hne e))).trans h

theorem cell_drew {w : World} {a : Addr} {v : Value} (h : w.cell? a = some v) : w.drew.cell? a = some v := h

theorem commit_ok (s : St) (x : Mv) (hf : Fine s) (h1 : sm x.mv) (h2 : sm x.part) : (commitMs s x).ok := by
  obtain ⟨a1, a2⟩ := h1
  obtain ⟨b1, b2⟩ := h2
  obtain ⟨c1, c2⟩ := hf.ep
  obtain ⟨d1, d2⟩ := hf.n
  refine ⟨by unfold small; omega, by unfold small; omega, by unfold small; omega, by unfold small; omega, ?_, ?_, ?_⟩
  · intro e; exact hf.ne (by simpa using e)
  · simpa using hf.l64
  · intro y hy
    obtain ⟨z, hz, rfl⟩ := List.mem_map.1 hy
    have := hf.own z hz
    unfold small; unfold sm at this; omega

theorem table_ok (s : St) (hf : Fine s) : (tableMs s).ok := by
  obtain ⟨c1, c2⟩ := hf.ep
  obtain ⟨d1, d2⟩ := hf.n
  refine ⟨by unfold small; omega, by unfold small; omega, ?_, ?_, ?_⟩
  · intro e; exact hf.ne (by simpa using e)
  · simpa using hf.l64
  · intro y hy
    obtain ⟨z, hz, rfl⟩ := List.mem_map.1 hy
    have := hf.own z hz
    unfold small; unfold sm at this; omega

theorem movePk_len (s : St) (x : Mv) : (movePk s x).length ≤ 2 := by
  unfold movePk
  split
  · simp
  · split <;> (cases unk x.dn 1 <;> cases unk x.dn 2 <;> simp)

theorem flat_pk (s : St) : ∀ (l : List Mv), (l.flatMap (movePk s)).length ≤ 2 * l.length
  | [] => by simp
  | x :: l => by
    have h1 := movePk_len s x
    have h2 := flat_pk s l
    simp only [List.flatMap_cons, List.length_append, List.length_cons]; omega

theorem info40 : (Tryz.prog.info? 40).map (·.size) = some 22 := by kernel_rfl
theorem mcells_one (k mv part dst ep n : Int) (o : Value) (ho : o.oneCell' = true) : (mcells k mv part dst ep n o (.slice none 0 0)).toArray.all (·.oneCell') = true := by
  rw [Array.all_eq_true_iff_forall_mem]
  intro x hx
  simp only [mcells, List.mem_toArray, List.mem_cons, List.not_mem_nil, or_false] at hx
  rcases hx with h | h | h | h | h | h | h | h | h | h | h | h | h | h | h | h | h | h | h | h | h | h <;> first | (rw [h]; rfl) | (rw [h]; exact ho)

/-- what Tick leaves -/
def TickPost (s : St) (w : World) (e : Ending) (w' : World) : Prop :=
  ∃ v, e = .returned v ∧ PRow w' v s.tick ∧ (∀ q, v.ownBlock = some q → w.heap.size ≤ q) ∧ Ext w w'

theorem Step.ext_of {w0 w w' : World} {v v' : Value} (h : Step w v v' w') (e : Ext w0 w) (hv : ∀ q, v.ownBlock = some q → w0.heap.size ≤ q) : Ext w0 w' ∧ ∀ q, v'.ownBlock = some q → w0.heap.size ≤ q := by
  constructor
  · exact ((Mod.of_ext e).step h.1 (S := []) (by intro x hx; right; exact hv x (by simpa using hx))).to_ext (by simp)
  · intro q hq
    rcases h.2 with e2 | ⟨k, e2, hk⟩
    · exact hv q (by rw [← e2]; exact hq)
    · rw [e2] at hq; cases hq; exact Nat.le_trans e.size hk

/-- the news' loops: what holds between two packets -/
structure TI (s : St) (ob oc T : Nat) (w0 : World) (ps : List (Int × ByteArray)) (v : Value) (wr : World) : Prop where
  ext : Ext w0 wr
  row : PRow wr v ps
  vb : ∀ q, v.ownBlock = some q → q ≠ T ∧ w0.heap.size ≤ q
  msg : Blk wr T (mcells 14 0 0 0 s.ep s.n (.slice (some ⟨ob, 0, none⟩) s.own.length oc) (.slice none 0 0)) 40
  own : IA wr ob 0 s.own

theorem TI.step {s : St} {ob oc T : Nat} {w0 wr w' : World} {ps ps' : List (Int × ByteArray)} {v v' : Value} (h : TI s ob oc T w0 ps v wr) (hS : Step wr v v' w') (hr : PRow w' v' ps') (hob : ob < w0.heap.size) : TI s ob oc T w0 ps' v' w' := by
  have h1 := hS.ext_of h.ext (fun q hq => (h.vb q hq).2)
  refine ⟨h1.1, hr, ?_, h.msg.mod hS.1 (by simp; intro e; exact (h.vb T e).1 rfl), h.own.mod hS.1 (by simp; intro e; have := (h.vb ob e).2; omega)⟩
  intro q hq
  refine ⟨?_, h1.2 q hq⟩
  rcases hS.2 with e | ⟨k, e, hk⟩
  · exact (h.vb q (by rw [← e]; exact hq)).1
  · rw [e] at hq; cases hq
    have := h.msg.lt
    omega

set_option maxRecDepth 100000 in
set_option maxHeartbeats 6400000 in
theorem tick_calls (c : Nat) (F : List Nat) (s : St) (w : World) (h : CR w c F s) (hL : s.L.length ≤ 12) (hs : s.L.Pairwise (fun x y => x.mv < y.mv)) (hf : Fine s) :
    Calls Tryz.prog 13 #[.pointer (some ⟨c, 0, none⟩)] w (TickPost s w) := by
  have hno := none_calls c F s w h
  obtain ⟨ob, oc, b, a, m, rfl, h⟩ := h
  have R := all_calls b m s.last (s.L.map Mv.ent) w h.book (by simpa using hL) (by rw [List.pairwise_map]; exact hs)
  have k0 := h.blk.read.1
  simp only [coordCells] at k0
  have k3 := k0 3
  simp only [List.getElem?_cons_succ, List.getElem?_cons_zero] at k3
  have HH := Lib.hid h
  have HS := Lib.hid hs
  have HF := Lib.hid hf
  clear k0 h hs hf
  go_enter Tryz.func13, Tryz.ntmps13
  go_wp2_with fail
  refine hno.mono ?_
  rintro e w1 ⟨rfl, rfl⟩
  clear hno
  go_wp2_with fail
  refine R.mono ?_
  intro e w0 q0
  unfold AllPost at q0
  obtain ⟨v0, rfl, hE, hE0⟩ := q0
  have HE0 := Lib.hid hE0
  clear R hE0 k3
  have hlen : ∃ g0 c0, v0 = .slice g0 s.L.length c0 ∧ (s.L ≠ [] → ∃ g, g0 = some ⟨g, 0, none⟩ ∧ EB w0 g c0 (s.L.map Mv.ent)) := by
    rcases hE with ⟨hn, rfl⟩ | ⟨hn, g, cap, rfl, hEB⟩
    · have hn : s.L = [] := by simpa using hn
      exact ⟨none, 0, by rw [hn]; rfl, fun h => (h hn).elim⟩
    · exact ⟨some ⟨g, 0, none⟩, cap, by simp, fun _ => ⟨g, rfl, hEB⟩⟩
  obtain ⟨g0, cap, rfl, hEB⟩ := hlen
  have HEB := Lib.hid hEB
  clear hE hEB
  go_wp2_with fail
  go_loopw [3, 20] (fun v i wr => ∃ k : Nat, k ≤ s.L.length ∧ i = i64 k ∧ Ext w0 wr ∧ PRow wr v ((s.L.take k).flatMap (movePk s)) ∧ ∀ q, v.ownBlock = some q → w0.heap.size ≤ q) (fun _ i _ => s.L.length - (intOf i).toNat)
  case atStart => exact ⟨0, by omega, rfl, Below.refl _ _, World.ownsRow_nil _ _ _ _, by simp [Value.ownBlock]⟩
  case round =>
    obtain ⟨k, hk, rfl, hE, ho, hv⟩ := hrel
    have HE := Lib.hid hE
    have HO := Lib.hid ho
    have HV := Lib.hid hv
    by_cases hlt : k < s.L.length
    · obtain ⟨x, hx⟩ : ∃ x, s.L[k] = x := ⟨_, rfl⟩
      have hxm : x ∈ s.L := by rw [← hx]; exact List.getElem_mem hlt
      have hkl : k < (s.L.map Mv.ent).length := by simpa using hlt
      obtain ⟨g, rfl, hEB⟩ := HEB.out (by intro e; rw [e] at hlt; simp at hlt)
      obtain ⟨a1, a2, a3, a4⟩ := (hEB.ext hE).cells k hkl
      have hge : (s.L.map Mv.ent)[k] = x.ent := by rw [List.getElem_map, hx]
      rw [hge] at a1 a2 a3 a4
      simp only [Mv.ent] at a1 a2 a3 a4
      have hC := (HH.out.ext HE0.out).ext hE
      have HC := Lib.hid hC
      have HXM := Lib.hid hxm
      have HX := Lib.hid hx
      have hCl := hC.blk.lt
      have hgl := (hEB.ext hE).lt
      have G2 : ((wr.alloc (.cells #[i64 x.mv, i64 x.part, i64 x.fr, i64 x.dst] 96)).alloc zmsg).heap[wr.heap.size + 1]? = some zmsg := by
        have := heap_alloc_new (wr.alloc (.cells #[i64 x.mv, i64 x.part, i64 x.fr, i64 x.dst] 96)) zmsg
        simpa only [World.size_alloc] using this
      have HG2 := Lib.hid G2
      clear hE ho hx hxm hge hC hv G2 hEB
      go_wp2_with (refine wpList_store_row rfl 40 (.tmp 6) (.tmp 28) rfl (wr.heap.size + 1) (mcells 12 x.mv x.part 0 0 0 (.slice none 0 0) (.slice none 0 0)).toArray rfl rfl 40 _ HG2.out info40 rfl (mcells_one _ _ _ _ _ _ _ rfl) ?_)
      have e1 : Ext wr (((wr.alloc (.cells #[i64 x.mv, i64 x.part, i64 x.fr, i64 x.dst] 96)).alloc zmsg).setRow (wr.heap.size + 1) (mcells 12 x.mv x.part 0 0 0 (.slice none 0 0) (.slice none 0 0)).toArray) := by
        have m1 : Mod [] wr ((wr.alloc (.cells #[i64 x.mv, i64 x.part, i64 x.fr, i64 x.dst] 96)).alloc zmsg) := by repeat (first | (with_reducible exact Mod.refl _ _) | (with_reducible assumption) | (with_reducible refine Mod.setCell ?_ (by simp) _) | (with_reducible refine Mod.alloc ?_ _) | (with_reducible refine Mod.drew ?_) | (with_reducible refine Mod.drewN ?_ _))
        exact (Mod.setRow m1 (by right; omega) _).to_ext (by simp)
      have hC1 := HC.out.ext e1
      have hX1 : Blk (((wr.alloc (.cells #[i64 x.mv, i64 x.part, i64 x.fr, i64 x.dst] 96)).alloc zmsg).setRow (wr.heap.size + 1) (mcells 12 x.mv x.part 0 0 0 (.slice none 0 0) (.slice none 0 0)).toArray) wr.heap.size [i64 x.mv, i64 x.part, i64 x.fr, i64 x.dst] 96 :=
        (setRow_other _ _ _ _ (by omega)).trans ((Blk.new wr [i64 x.mv, i64 x.part, i64 x.fr, i64 x.dst] 96).old _)
      have hM1 : Blk (((wr.alloc (.cells #[i64 x.mv, i64 x.part, i64 x.fr, i64 x.dst] 96)).alloc zmsg).setRow (wr.heap.size + 1) (mcells 12 x.mv x.part 0 0 0 (.slice none 0 0) (.slice none 0 0)).toArray) (wr.heap.size + 1) (mcells 12 x.mv x.part 0 0 0 (.slice none 0 0) (.slice none 0 0)) 40 :=
        setRow_heap _ _ _ _ 40 (0, 0) HG2.out
      have hO1 := HO.out.ext e1
      have HE1 := Lib.hid (HE.out.trans e1)
      have hNl : w0.heap.size ≤ wr.heap.size := HE.out.size
      have hvN : ∀ q, u3.ownBlock = some q → q < wr.heap.size := fun q hq => (World.ownsRow.lt HO.out q hq).2
      clear e1 a1 a2 a3 a4 hCl hgl HG2
      simp only [zmsg, mcells] at hC1 hX1 hM1 hO1 HE1 ⊢
      revert hC1 hX1 hM1 hO1 HE1 hNl hvN
      generalize wr.heap.size = N
      generalize hW : World.setRow _ (N + 1) _ = W1
      clear hW
      intro hC1 hX1 hM1 hO1 HE1 hNl hvN
      have hNQ : N + 1 < W1.heap.size := Blk.lt (t := 40) hM1
      have hlk := run_look_some (P := Tryz.prog) Tryz.underlying55 Tryz.underlying3 (show MapIs W1.drew a s.ats from hC1.ats.same rfl) x.mv false (atKey_mem HS.out HXM.out)
      have hlk2 := run_look_some (P := Tryz.prog) Tryz.underlying55 Tryz.underlying3 (show MapIs (W1.alloc (.cells #[i64 0, i64 0] 94)).drew a s.ats from (hC1.ats.alloc (.cells #[i64 0, i64 0] 94)).same rfl) x.mv false (atKey_mem HS.out HXM.out)
      unfold Mv.atv at hlk hlk2
      have r4 := hC1.blk.read.1 4
      have r0 := hX1.read.1 0
      have hl1 := hC1.blk.lt
      have hl2 := hX1.lt
      simp only [coordCells, List.getElem?_cons_succ, List.getElem?_cons_zero] at r4 r0
      have HC1 := Lib.hid hC1
      have HX1 := Lib.hid hX1
      have HM1 := Lib.hid hM1
      have HO1 := Lib.hid hO1
      clear hC1 hX1 hM1 hO1
      go_region_held3 (fun w' => w'.cell? ⟨c, 4, none⟩ = some (.map (some a)) ∧ w'.cell? ⟨N, 0, none⟩ = some (i64 x.mv)) (first | assumption | (refine ⟨?_, ?_⟩ <;> first | assumption | go_keep | (simp [*, go_sem]; done))) (fail)
      all_goals
        have e2 : Ext W1 (W1.alloc (.cells #[i64 x.st, i64 x.dn] 94)).drew := by (refine Mod.to_ext (S := []) ?_ (by simp); repeat (first | (with_reducible exact Mod.refl _ _) | (with_reducible assumption) | (with_reducible refine Mod.alloc ?_ _) | (with_reducible refine Mod.drew ?_) | (with_reducible refine Mod.drewN ?_ _)))
        have hC2 := HC1.out.ext e2
        have hX2 := HX1.out.ext e2
        have hM2 := HM1.out.ext e2
        have hA2 : Blk (W1.alloc (.cells #[i64 x.st, i64 x.dn] 94)).drew W1.heap.size [i64 x.st, i64 x.dn] 94 := (Blk.new W1 [i64 x.st, i64 x.dn] 94).drew
        have hO2 : PRow (W1.alloc (.cells #[i64 x.st, i64 x.dn] 94)).drew u3 ((s.L.take k).flatMap (movePk s)) := HO1.out.ext e2
        have HE2 := Lib.hid (HE1.out.trans e2)
        clear e2 hlk hlk2 r4 r0 hl1 hl2 HC1 HX1 HM1 HO1
        have HVN := Lib.hid hvN
        clear hvN
        revert hC2 hX2 hM2 hA2 hO2 HE2 hNQ
        generalize (W1.alloc (.cells #[i64 x.st, i64 x.dn] 94)).drew = W2
        generalize W1.heap.size = Q
        intro hNQ hC2 hX2 hM2 hA2 hO2 HE2
        obtain ⟨y1, z1⟩ := hX2.read
        obtain ⟨y2, z2⟩ := hA2.read
        have HC2 := Lib.hid hC2
        have HX2 := Lib.hid hX2
        have HM2 := Lib.hid (show Blk W2 (N + 1) (mcells 12 x.mv x.part 0 0 0 (.slice none 0 0) (.slice none 0 0)) 40 from hM2)
        have HA2 := Lib.hid hA2
        have HO2 := Lib.hid hO2
        clear hC2 hX2 hM2 hA2 hO2
        have hps : ((s.L.take k).flatMap (movePk s)).length ≤ 9000 := by have := flat_pk s (s.L.take k); have := List.length_take_le k s.L; omega
        obtain ⟨⟨sm1, sm2⟩, ⟨sp1, sp2⟩, ⟨sd1, sd2⟩⟩ := HF.out.mv x HXM.out
        obtain ⟨X1, hX1⟩ := Int.eq_ofNat_of_zero_le sm1
        obtain ⟨X2, hX2⟩ := Int.eq_ofNat_of_zero_le sp1
        obtain ⟨X3, hX3⟩ := Int.eq_ofNat_of_zero_le sd1
        by_cases hst : x.st = 1
        · have hstb : (x.st == 1) = true := by simpa using hst
          have HST := Lib.hid hst
          have RP := post_calls u3 _ x.fr (prepMs x) (.slice none 0 0) W2 HO2.out (by omega) (by unfold prepMs Ms.ok small; omega) (.inl ⟨rfl, rfl⟩)
          have hce : ((prepMs x).cells (.slice none 0 0)).toArray = (mcells 4 x.mv x.part x.dst 0 0 (.slice none 0 0) (.slice none 0 0)).toArray := by
            unfold prepMs Ms.cells
            simp only
            rw [Int.toNat_of_nonneg sm1, Int.toNat_of_nonneg sp1, Int.toNat_of_nonneg sd1]
          rw [hce] at RP
          clear hst hX1 hX2 hX3 hce
          unfold mcells at RP
          go_wp2_with fail
          refine RP.mono ?_
          intro e w5 q1
          unfold PPost at q1
          obtain ⟨v5, rfl, hO5, hS5⟩ := q1
          have HO5 := Lib.hid hO5
          have HS5 := Lib.hid hS5
          clear hO5 hS5 RP
          go_wp2_with fail
          go_roundw
          case rel =>
            have hs5 := HS5.out.ext_of HE2.out HV.out
            refine ⟨k + 1, by omega, by go_num, hs5.1, ?_, hs5.2⟩
            rw [List.take_succ_eq_append_getElem hlt, List.flatMap_append, HX.out]
            have hmp : movePk s x = [(x.fr, dataS (prepMs x))] := by unfold movePk; rw [if_pos HST.out]
            simp only [List.flatMap_cons, List.flatMap_nil, List.append_nil, hmp]
            exact HO5.out
          case measure => simp [intOf]; omega
        · have hstb : (x.st == 1) = false := by simpa using hst
          have HST1 := Lib.hid hst
          clear hst hX1 hX2 hX3
          by_cases hst2 : x.st = 2
          · have hstb2 : (x.st == 2) = true := by simpa using hst2
            have HST2 := Lib.hid hst2
            clear hst2
            obtain ⟨d1, d2⟩ := HM2.out.read
            have k0 := HC2.out.blk.read.1
            simp only [coordCells] at k0
            have r0 := k0 0
            have r1 := k0 1
            have r2 := k0 2
            simp only [List.getElem?_cons_succ, List.getElem?_cons_zero] at r0 r1 r2
            have hcw := HH.out.lt c (by simp)
            have hobw := HH.out.lt ob (by simp)
            have hw0s := HE0.out.size
            have hcN : ¬ c = N + 1 := by omega
            have hoN : ¬ ob = N + 1 := by omega
            have hmN : N + 1 < W2.heap.size := HM2.out.lt
            have rd0 : W2.drew.cell? ⟨c, 0, none⟩ = some (i64 s.ep) := r0
            have rd1 : W2.drew.cell? ⟨c, 1, none⟩ = some (i64 s.n) := r1
            have rd2 : W2.drew.cell? ⟨c, 2, none⟩ = some (.slice (some ⟨ob, 0, none⟩) s.own.length oc) := r2
            clear k0
            unfold mcells at d1
            go_wp2_with fail
            go_region
            have M23 : Mod [N + 1] W2 (((((W2.setCell ⟨N + 1, 0, none⟩ (.int .u8 11)).setCell ⟨N + 1, 17, none⟩ (i64 s.ep)).setCell ⟨N + 1, 18, none⟩ (i64 s.n)).setCell ⟨N + 1, 19, none⟩ (.slice (some ⟨ob, 0, none⟩) s.own.length oc)).drew) := by repeat (first | (with_reducible exact Mod.refl _ _) | (with_reducible assumption) | (with_reducible refine Mod.setCell ?_ (by simp) _) | (with_reducible refine Mod.alloc ?_ _) | (with_reducible refine Mod.drew ?_) | (with_reducible refine Mod.drewN ?_ _))
            have hM3 : Blk (((((W2.setCell ⟨N + 1, 0, none⟩ (.int .u8 11)).setCell ⟨N + 1, 17, none⟩ (i64 s.ep)).setCell ⟨N + 1, 18, none⟩ (i64 s.n)).setCell ⟨N + 1, 19, none⟩ (.slice (some ⟨ob, 0, none⟩) s.own.length oc)).drew) (N + 1) (mcells 11 x.mv x.part 0 s.ep s.n (.slice (some ⟨ob, 0, none⟩) s.own.length oc) (.slice none 0 0)) 40 := ((((HM2.out.set 0 _).set 17 _).set 18 _).set 19 _).drew
            have hX3 := HX2.out.mod M23 (by simp)
            have hA3 := HA2.out.mod M23 (by simp; omega)
            have hI3 := HC2.out.own.mod M23 (by simp; omega)
            have hO3 := HO2.out.mod M23 (by intro q hq; have := HVN.out q hq; simp; omega)
            have hE3 : Ext w0 (((((W2.setCell ⟨N + 1, 0, none⟩ (.int .u8 11)).setCell ⟨N + 1, 17, none⟩ (i64 s.ep)).setCell ⟨N + 1, 18, none⟩ (i64 s.n)).setCell ⟨N + 1, 19, none⟩ (.slice (some ⟨ob, 0, none⟩) s.own.length oc)).drew) := ((Mod.of_ext (S := []) HE2.out).step M23 (by intro q hq; right; simp at hq; omega)).to_ext (by simp)
            have HM3 := Lib.hid hM3
            have HX3 := Lib.hid hX3
            have HA3 := Lib.hid hA3
            have HI3 := Lib.hid hI3
            have HO3 := Lib.hid hO3
            have HE3 := Lib.hid hE3
            clear hM3 hX3 hA3 hI3 hO3 hE3 M23 y1 z1 y2 z2 d1 d2 r0 r1 r2 rd0 rd1 rd2 HM2 HX2 HA2 HO2 HE2 HC2
            revert HM3 HX3 HA3 HI3 HO3 HE3
            generalize ((((W2.setCell ⟨N + 1, 0, none⟩ (.int .u8 11)).setCell ⟨N + 1, 17, none⟩ (i64 s.ep)).setCell ⟨N + 1, 18, none⟩ (i64 s.n)).setCell ⟨N + 1, 19, none⟩ (.slice (some ⟨ob, 0, none⟩) s.own.length oc)).drew = W3
            intro HM3 HX3 HA3 HI3 HO3 HE3
            obtain ⟨y1, z1⟩ := HX3.out.read
            obtain ⟨y2, z2⟩ := HA3.out.read
            have hPost : ∀ (W : World) (v : Value) (ps : List (Int × ByteArray)) (t : Int), PRow W v ps → ps.length ≤ 10000 → Ext W3 W → Calls Tryz.prog 46 #[v, i64 t, .agg (mcells 11 x.mv x.part 0 s.ep s.n (.slice (some ⟨ob, 0, none⟩) s.own.length oc) (.slice none 0 0)).toArray] W (PPost W v (ps ++ [(t, dataS (commitMs s x))])) := by
              intro W v ps t h1 h2 h3
              have hce : ((commitMs s x).cells (.slice (some ⟨ob, 0, none⟩) s.own.length oc)).toArray = (mcells 11 x.mv x.part 0 s.ep s.n (.slice (some ⟨ob, 0, none⟩) s.own.length oc) (.slice none 0 0)).toArray := by
                unfold commitMs Ms.cells
                simp only
                rw [Int.toNat_of_nonneg sm1, Int.toNat_of_nonneg sp1, Int.toNat_of_nonneg HF.out.ep.1, Int.toNat_of_nonneg HF.out.n.1]
              rw [← hce]
              exact post_calls v ps t (commitMs s x) _ W h1 h2 (commit_ok s x HF.out ⟨sm1, sm2⟩ ⟨sp1, sp2⟩) (.inr ⟨by simp only [commitMs, Ms.owners]; rw [ints_toNat HF.out.own]; exact HF.out.ne, ob, 0, oc, by simp only [commitMs, Ms.owners]; rw [ints_toNat HF.out.own], by simp only [commitMs, Ms.owners]; rw [ints_toNat HF.out.own]; exact HI3.out.ext h3⟩)
            cases u1 : (bits BinOp.and IntKind.i64 x.dn 1 == 0) <;> cases u2 : (bits BinOp.and IntKind.i64 x.dn 2 == 0)
            · have hmp : movePk s x = [] := by
                unfold movePk; rw [if_neg HST1.out, if_pos HST2.out]; simp [unk, u1, u2]
              have HMP := Lib.hid hmp
              clear hmp
              go_wp2_with fail
              go_roundw
              case rel =>
                refine ⟨k + 1, by omega, by go_num, HE3.out, ?_, HV.out⟩
                rw [List.take_succ_eq_append_getElem hlt, List.flatMap_append, HX.out]
                simp only [List.flatMap_cons, List.flatMap_nil, List.append_nil, HMP.out]
                exact HO3.out
              case measure => simp [intOf]; omega
            · have hmp : movePk s x = [(x.dst, dataS (commitMs s x))] := by
                unfold movePk; rw [if_neg HST1.out, if_pos HST2.out]; simp [unk, u1, u2]
              have HMP := Lib.hid hmp
              clear hmp
              have RP := hPost W3 u3 _ x.dst HO3.out (by omega) (Below.refl _ _)
              go_wp2_with (refine wpList_load_row rfl 40 (.tmp 6) rfl (N + 1) rfl 40 (mcells 11 x.mv x.part 0 s.ep s.n (.slice (some ⟨ob, 0, none⟩) s.own.length oc) (.slice none 0 0)).toArray (0, 0) _ HM3.out Tryz.underlying40 rfl info40 ?_)
              refine RP.mono ?_
              intro e w5 q1
              unfold PPost at q1
              obtain ⟨v5, rfl, hO5, hS5⟩ := q1
              have hX5 := HX3.out.mod hS5.1 (by simp; intro e; have := HVN.out N e; omega)
              have hA5 := HA3.out.mod hS5.1 (by simp; intro e; have := HVN.out Q e; omega)
              have hM5 := HM3.out.mod hS5.1 (by simp; intro e; have := HVN.out (N + 1) e; omega)
              obtain ⟨t1, t2⟩ := hX5.read
              obtain ⟨t3, t4⟩ := hA5.read
              have HO5 := Lib.hid hO5
              have HS5 := Lib.hid hS5
              have HM5 := Lib.hid hM5
              clear hO5 hS5 RP hX5 hA5 hM5 y1 z1 y2 z2
              go_wp2_with fail
              go_roundw
              case rel =>
                have hs5 := HS5.out.ext_of HE3.out HV.out
                refine ⟨k + 1, by omega, by go_num, hs5.1, ?_, hs5.2⟩
                rw [List.take_succ_eq_append_getElem hlt, List.flatMap_append, HX.out]
                simp only [List.flatMap_cons, List.flatMap_nil, List.append_nil, HMP.out]
                exact HO5.out
              case measure => simp [intOf]; omega
            · have hmp : movePk s x = [(x.fr, dataS (commitMs s x))] := by
                unfold movePk; rw [if_neg HST1.out, if_pos HST2.out]; simp [unk, u1, u2]
              have HMP := Lib.hid hmp
              clear hmp
              have RP := hPost W3 u3 _ x.fr HO3.out (by omega) (Below.refl _ _)
              go_wp2_with (refine wpList_load_row rfl 40 (.tmp 6) rfl (N + 1) rfl 40 (mcells 11 x.mv x.part 0 s.ep s.n (.slice (some ⟨ob, 0, none⟩) s.own.length oc) (.slice none 0 0)).toArray (0, 0) _ HM3.out Tryz.underlying40 rfl info40 ?_)
              refine RP.mono ?_
              intro e w5 q1
              unfold PPost at q1
              obtain ⟨v5, rfl, hO5, hS5⟩ := q1
              have hX5 := HX3.out.mod hS5.1 (by simp; intro e; have := HVN.out N e; omega)
              have hA5 := HA3.out.mod hS5.1 (by simp; intro e; have := HVN.out Q e; omega)
              have hM5 := HM3.out.mod hS5.1 (by simp; intro e; have := HVN.out (N + 1) e; omega)
              obtain ⟨t1, t2⟩ := hX5.read
              obtain ⟨t3, t4⟩ := hA5.read
              have HO5 := Lib.hid hO5
              have HS5 := Lib.hid hS5
              have HM5 := Lib.hid hM5
              clear hO5 hS5 RP hX5 hA5 hM5 y1 z1 y2 z2
              go_wp2_with fail
              go_roundw
              case rel =>
                have hs5 := HS5.out.ext_of HE3.out HV.out
                refine ⟨k + 1, by omega, by go_num, hs5.1, ?_, hs5.2⟩
                rw [List.take_succ_eq_append_getElem hlt, List.flatMap_append, HX.out]
                simp only [List.flatMap_cons, List.flatMap_nil, List.append_nil, HMP.out]
                exact HO5.out
              case measure => simp [intOf]; omega
            · have hmp : movePk s x = [(x.dst, dataS (commitMs s x))] := by
                unfold movePk; rw [if_neg HST1.out, if_pos HST2.out]; simp [unk, u1, u2]
              have HMP := Lib.hid hmp
              clear hmp
              have RP := hPost W3 u3 _ x.dst HO3.out (by omega) (Below.refl _ _)
              go_wp2_with (refine wpList_load_row rfl 40 (.tmp 6) rfl (N + 1) rfl 40 (mcells 11 x.mv x.part 0 s.ep s.n (.slice (some ⟨ob, 0, none⟩) s.own.length oc) (.slice none 0 0)).toArray (0, 0) _ HM3.out Tryz.underlying40 rfl info40 ?_)
              refine RP.mono ?_
              intro e w5 q1
              unfold PPost at q1
              obtain ⟨v5, rfl, hO5, hS5⟩ := q1
              have hX5 := HX3.out.mod hS5.1 (by simp; intro e; have := HVN.out N e; omega)
              have hA5 := HA3.out.mod hS5.1 (by simp; intro e; have := HVN.out Q e; omega)
              have hM5 := HM3.out.mod hS5.1 (by simp; intro e; have := HVN.out (N + 1) e; omega)
              obtain ⟨t1, t2⟩ := hX5.read
              obtain ⟨t3, t4⟩ := hA5.read
              have HO5 := Lib.hid hO5
              have HS5 := Lib.hid hS5
              have HM5 := Lib.hid hM5
              clear hO5 hS5 RP hX5 hA5 hM5 y1 z1 y2 z2
              go_wp2_with fail
              go_roundw
              case rel =>
                have hs5 := HS5.out.ext_of HE3.out HV.out
                refine ⟨k + 1, by omega, by go_num, hs5.1, ?_, hs5.2⟩
                rw [List.take_succ_eq_append_getElem hlt, List.flatMap_append, HX.out]
                simp only [List.flatMap_cons, List.flatMap_nil, List.append_nil, HMP.out]
                exact HO5.out
              case measure => simp [intOf]; omega
          · have hstb2 : (x.st == 2) = false := by simpa using hst2
            have HST2 := Lib.hid hst2
            clear hst2
            have hPost : ∀ (W : World) (v : Value) (ps : List (Int × ByteArray)) (t : Int), PRow W v ps → ps.length ≤ 10000 → Calls Tryz.prog 46 #[v, i64 t, .agg (mcells 12 x.mv x.part 0 0 0 (.slice none 0 0) (.slice none 0 0)).toArray] W (PPost W v (ps ++ [(t, dataS (abortMs x))])) := by
              intro W v ps t h1 h2
              have hce : ((abortMs x).cells (.slice none 0 0)).toArray = (mcells 12 x.mv x.part 0 0 0 (.slice none 0 0) (.slice none 0 0)).toArray := by
                unfold abortMs Ms.cells
                simp only
                rw [Int.toNat_of_nonneg sm1, Int.toNat_of_nonneg sp1]
              rw [← hce]
              exact post_calls v ps t (abortMs x) _ W h1 h2 ⟨by unfold small; omega, by unfold small; omega⟩ (.inl ⟨rfl, rfl⟩)
            cases u1 : (bits BinOp.and IntKind.i64 x.dn 1 == 0) <;> cases u2 : (bits BinOp.and IntKind.i64 x.dn 2 == 0)
            · have hmp : movePk s x = [] := by
                unfold movePk; rw [if_neg HST1.out, if_neg HST2.out]; simp [unk, u1, u2]
              have HMP := Lib.hid hmp
              clear hmp
              go_wp2_with fail
              go_roundw
              case rel =>
                refine ⟨k + 1, by omega, by go_num, HE2.out, ?_, HV.out⟩
                rw [List.take_succ_eq_append_getElem hlt, List.flatMap_append, HX.out]
                simp only [List.flatMap_cons, List.flatMap_nil, List.append_nil, HMP.out]
                exact HO2.out
              case measure => simp [intOf]; omega
            · have hmp : movePk s x = [(x.dst, dataS (abortMs x))] := by
                unfold movePk; rw [if_neg HST1.out, if_neg HST2.out]; simp [unk, u1, u2]
              have HMP := Lib.hid hmp
              clear hmp
              have RP := hPost W2 u3 _ x.dst HO2.out (by omega)
              go_wp2_with (refine wpList_load_row rfl 40 (.tmp 6) rfl (N + 1) rfl 40 (mcells 12 x.mv x.part 0 0 0 (.slice none 0 0) (.slice none 0 0)).toArray (0, 0) _ HM2.out Tryz.underlying40 rfl info40 ?_)
              refine RP.mono ?_
              intro e w5 q1
              unfold PPost at q1
              obtain ⟨v5, rfl, hO5, hS5⟩ := q1
              have hX5 := HX2.out.mod hS5.1 (by simp; intro e; have := HVN.out N e; omega)
              have hA5 := HA2.out.mod hS5.1 (by simp; intro e; have := HVN.out Q e; omega)
              have hM5 := HM2.out.mod hS5.1 (by simp; intro e; have := HVN.out (N + 1) e; omega)
              obtain ⟨t1, t2⟩ := hX5.read
              obtain ⟨t3, t4⟩ := hA5.read
              have HO5 := Lib.hid hO5
              have HS5 := Lib.hid hS5
              have HM5 := Lib.hid hM5
              clear hO5 hS5 RP hX5 hA5 hM5 y1 z1 y2 z2
              go_wp2_with fail
              go_roundw
              case rel =>
                have hs5 := HS5.out.ext_of HE2.out HV.out
                refine ⟨k + 1, by omega, by go_num, hs5.1, ?_, hs5.2⟩
                rw [List.take_succ_eq_append_getElem hlt, List.flatMap_append, HX.out]
                simp only [List.flatMap_cons, List.flatMap_nil, List.append_nil, HMP.out]
                exact HO5.out
              case measure => simp [intOf]; omega
            · have hmp : movePk s x = [(x.fr, dataS (abortMs x))] := by
                unfold movePk; rw [if_neg HST1.out, if_neg HST2.out]; simp [unk, u1, u2]
              have HMP := Lib.hid hmp
              clear hmp
              have RP := hPost W2 u3 _ x.fr HO2.out (by omega)
              go_wp2_with (refine wpList_load_row rfl 40 (.tmp 6) rfl (N + 1) rfl 40 (mcells 12 x.mv x.part 0 0 0 (.slice none 0 0) (.slice none 0 0)).toArray (0, 0) _ HM2.out Tryz.underlying40 rfl info40 ?_)
              refine RP.mono ?_
              intro e w5 q1
              unfold PPost at q1
              obtain ⟨v5, rfl, hO5, hS5⟩ := q1
              have hX5 := HX2.out.mod hS5.1 (by simp; intro e; have := HVN.out N e; omega)
              have hA5 := HA2.out.mod hS5.1 (by simp; intro e; have := HVN.out Q e; omega)
              have hM5 := HM2.out.mod hS5.1 (by simp; intro e; have := HVN.out (N + 1) e; omega)
              obtain ⟨t1, t2⟩ := hX5.read
              obtain ⟨t3, t4⟩ := hA5.read
              have HO5 := Lib.hid hO5
              have HS5 := Lib.hid hS5
              have HM5 := Lib.hid hM5
              clear hO5 hS5 RP hX5 hA5 hM5 y1 z1 y2 z2
              go_wp2_with fail
              go_roundw
              case rel =>
                have hs5 := HS5.out.ext_of HE2.out HV.out
                refine ⟨k + 1, by omega, by go_num, hs5.1, ?_, hs5.2⟩
                rw [List.take_succ_eq_append_getElem hlt, List.flatMap_append, HX.out]
                simp only [List.flatMap_cons, List.flatMap_nil, List.append_nil, HMP.out]
                exact HO5.out
              case measure => simp [intOf]; omega
            · have hmp : movePk s x = [(x.fr, dataS (abortMs x)), (x.dst, dataS (abortMs x))] := by
                unfold movePk; rw [if_neg HST1.out, if_neg HST2.out]; simp [unk, u1, u2]
              have HMP := Lib.hid hmp
              clear hmp
              have RP := hPost W2 u3 _ x.fr HO2.out (by omega)
              go_wp2_with (refine wpList_load_row rfl 40 (.tmp 6) rfl (N + 1) rfl 40 (mcells 12 x.mv x.part 0 0 0 (.slice none 0 0) (.slice none 0 0)).toArray (0, 0) _ HM2.out Tryz.underlying40 rfl info40 ?_)
              refine RP.mono ?_
              intro e w5 q1
              unfold PPost at q1
              obtain ⟨v5, rfl, hO5, hS5⟩ := q1
              have hX5 := HX2.out.mod hS5.1 (by simp; intro e; have := HVN.out N e; omega)
              have hA5 := HA2.out.mod hS5.1 (by simp; intro e; have := HVN.out Q e; omega)
              have hM5 := HM2.out.mod hS5.1 (by simp; intro e; have := HVN.out (N + 1) e; omega)
              obtain ⟨t1, t2⟩ := hX5.read
              obtain ⟨t3, t4⟩ := hA5.read
              have HO5 := Lib.hid hO5
              have HS5 := Lib.hid hS5
              have HM5 := Lib.hid hM5
              clear hO5 hS5 RP hX5 hA5 hM5 y1 z1 y2 z2
              have RP2 := hPost w5 v5 _ x.dst HO5.out (by rw [List.length_append]; simp only [List.length_singleton]; omega)
              go_wp2_with (refine wpList_load_row rfl 40 (.tmp 6) rfl (N + 1) rfl 40 (mcells 12 x.mv x.part 0 0 0 (.slice none 0 0) (.slice none 0 0)).toArray (0, 0) _ HM5.out Tryz.underlying40 rfl info40 ?_)
              refine RP2.mono ?_
              intro e w6 q1
              unfold PPost at q1
              obtain ⟨v6, rfl, hO6, hS6⟩ := q1
              have HO6 := Lib.hid hO6
              have HS6 := Lib.hid (hS6)
              clear hO6 hS6 RP2 t1 t2 t3 t4
              go_wp2_with fail
              go_roundw
              case rel =>
                have hs4 := HS5.out.ext_of HE2.out HV.out
                have hs5 := HS6.out.ext_of hs4.1 hs4.2
                refine ⟨k + 1, by omega, by go_num, hs5.1, ?_, hs5.2⟩
                rw [List.take_succ_eq_append_getElem hlt, List.flatMap_append, HX.out]
                simp only [List.flatMap_cons, List.flatMap_nil, List.append_nil, HMP.out]
                simpa using HO6.out
              case measure => simp [intOf]; omega
    · have hkl : k = s.L.length := by omega
      subst hkl
      rw [List.take_length] at ho
      have HO := Lib.hid ho
      have hC := (HH.out.ext HE0.out).ext hE
      have HC := Lib.hid hC
      have k0 := hC.blk.read.1
      simp only [coordCells] at k0
      have r0 := k0 0
      have r1 := k0 1
      have r2 := k0 2
      simp only [List.getElem?_cons_succ, List.getElem?_cons_zero] at r0 r1 r2
      have G2 := Lib.hid (heap_alloc_new wr zmsg)
      have hcl := hC.blk.lt
      have hbs := flat_pk s s.L
      obtain ⟨BS, hBS⟩ : ∃ BS, s.L.flatMap (movePk s) = BS := ⟨_, rfl⟩
      rw [hBS] at ho hbs
      have HBS := Lib.hid hBS
      have HOB := Lib.hid ho
      have e1 : Ext wr ((wr.alloc (.cells #[.int .u8 0, i64 0, i64 0, i64 0, i64 0, i64 0, i64 0, .int .u64 0, i64 0, i64 0, i64 0, i64 0, .int .u8 0, .string ⟨#[]⟩, i64 0, i64 0, i64 0, i64 0, i64 0, .slice none 0 0, .slice none 0 0, .string ⟨#[]⟩] 40)).setRow wr.heap.size (mcells 14 0 0 0 s.ep s.n (.slice (some ⟨ob, 0, none⟩) s.own.length oc) (.slice none 0 0)).toArray) := by
        have m1 : Mod [] wr (wr.alloc (.cells #[.int .u8 0, i64 0, i64 0, i64 0, i64 0, i64 0, i64 0, .int .u64 0, i64 0, i64 0, i64 0, i64 0, .int .u8 0, .string ⟨#[]⟩, i64 0, i64 0, i64 0, i64 0, i64 0, .slice none 0 0, .slice none 0 0, .string ⟨#[]⟩] 40)) := by repeat (first | (with_reducible exact Mod.refl _ _) | (with_reducible assumption) | (with_reducible refine Mod.setCell ?_ (by simp) _) | (with_reducible refine Mod.alloc ?_ _) | (with_reducible refine Mod.drew ?_) | (with_reducible refine Mod.drewN ?_ _))
        exact (Mod.setRow m1 (by right; omega) _).to_ext (by simp)
      have rs1 := ((hC.ext e1).blk.read.1 1)
      simp only [coordCells, List.getElem?_cons_succ, List.getElem?_cons_zero] at rs1
      have hT : Blk ((wr.alloc (.cells #[.int .u8 0, i64 0, i64 0, i64 0, i64 0, i64 0, i64 0, .int .u64 0, i64 0, i64 0, i64 0, i64 0, .int .u8 0, .string ⟨#[]⟩, i64 0, i64 0, i64 0, i64 0, i64 0, .slice none 0 0, .slice none 0 0, .string ⟨#[]⟩] 40)).setRow wr.heap.size (mcells 14 0 0 0 s.ep s.n (.slice (some ⟨ob, 0, none⟩) s.own.length oc) (.slice none 0 0)).toArray) wr.heap.size (mcells 14 0 0 0 s.ep s.n (.slice (some ⟨ob, 0, none⟩) s.own.length oc) (.slice none 0 0)) 40 := setRow_heap _ _ _ _ 40 (0, 0) (heap_alloc_new wr zmsg)
      have hI1 : IA ((wr.alloc (.cells #[.int .u8 0, i64 0, i64 0, i64 0, i64 0, i64 0, i64 0, .int .u64 0, i64 0, i64 0, i64 0, i64 0, .int .u8 0, .string ⟨#[]⟩, i64 0, i64 0, i64 0, i64 0, i64 0, .slice none 0 0, .slice none 0 0, .string ⟨#[]⟩] 40)).setRow wr.heap.size (mcells 14 0 0 0 s.ep s.n (.slice (some ⟨ob, 0, none⟩) s.own.length oc) (.slice none 0 0)).toArray) ob 0 s.own := (hC.ext e1).own
      have hO1 := HO.out.ext e1
      rw [hBS] at hO1
      have hvT : ∀ q, u3.ownBlock = some q → q ≠ wr.heap.size ∧ w0.heap.size ≤ q := fun q hq => ⟨by have := (World.ownsRow.lt ho q hq).2; omega, HV.out q hq⟩
      have hE1 := HE.out.trans e1
      have HT := Lib.hid hT
      have HI1 := Lib.hid hI1
      have HO1 := Lib.hid hO1
      have HVT := Lib.hid hvT
      have HE1 := Lib.hid hE1
      clear hE ho hC k0 hv hBS HO hlt hk hT hI1 hO1 hvT hE1 e1
      go_wp2_with (refine wpList_store_row rfl 40 (.tmp 9) (.tmp 95) rfl wr.heap.size (mcells 14 0 0 0 s.ep s.n (.slice (some ⟨ob, 0, none⟩) s.own.length oc) (.slice none 0 0)).toArray rfl rfl 40 _ G2.out info40 rfl (mcells_one _ _ _ _ _ _ _ rfl) ?_)
      revert HT HI1 HO1 HVT HE1
      generalize wr.heap.size = T
      generalize hW : World.setRow _ T _ = W1
      clear hW
      intro HT HI1 HO1 HVT HE1
      have hPost : ∀ (W : World) (v : Value) (ps : List (Int × ByteArray)) (t : Int), PRow W v ps → ps.length ≤ 10000 → IA W ob 0 s.own → Calls Tryz.prog 46 #[v, i64 t, .agg (mcells 14 0 0 0 s.ep s.n (.slice (some ⟨ob, 0, none⟩) s.own.length oc) (.slice none 0 0)).toArray] W (PPost W v (ps ++ [(t, dataS (tableMs s))])) := by
        intro W v ps t h1 h2 h3
        have hce : ((tableMs s).cells (.slice (some ⟨ob, 0, none⟩) s.own.length oc)).toArray = (mcells 14 0 0 0 s.ep s.n (.slice (some ⟨ob, 0, none⟩) s.own.length oc) (.slice none 0 0)).toArray := by
          unfold tableMs Ms.cells
          simp only
          rw [Int.toNat_of_nonneg HF.out.ep.1, Int.toNat_of_nonneg HF.out.n.1]
        rw [← hce]
        exact post_calls v ps t (tableMs s) _ W h1 h2 (table_ok s HF.out) (.inr ⟨by simp only [tableMs, Ms.owners]; rw [ints_toNat HF.out.own]; exact HF.out.ne, ob, 0, oc, by simp only [tableMs, Ms.owners]; rw [ints_toNat HF.out.own], by simp only [tableMs, Ms.owners]; rw [ints_toNat HF.out.own]; exact h3⟩)
      have hTI : TI s ob oc T w0 BS u3 W1 := ⟨HE1.out, HO1.out, HVT.out, HT.out, HI1.out⟩
      have hobw : ob < w0.heap.size := Nat.lt_of_lt_of_le (HH.out.lt ob (by simp)) HE0.out.size
      have hn0 := HF.out.n.1
      have hn4 := HF.out.n4
      have HTI := Lib.hid hTI
      have HPost := Lib.hid hPost
      clear hTI hPost HT HI1 HO1 HVT HE1 r0 r1 r2 rs1 hcl HE HV HC G2 HOB
      go_loopw [3, 101] (fun v i wr => ∃ k : Nat, (k : Int) ≤ s.n ∧ i = i64 k ∧ TI s ob oc T w0 (BS ++ (List.range k).map (fun (i : Nat) => ((i : Int), dataS (tableMs s)))) v wr) (fun _ i _ => s.n.toNat - (intOf i).toNat)
      case atStart => exact ⟨0, by omega, rfl, by simpa using HTI.out⟩
      case round =>
        obtain ⟨k, hk, rfl, hI⟩ := hrel
        have HI := Lib.hid hI
        by_cases hlt : (k : Int) < s.n
        · have RP := HPost.out wr u3 _ k hI.row (by simp; omega) hI.own
          clear hI
          go_wp2_with (refine wpList_load_row rfl 40 (.tmp 9) rfl T rfl 40 (mcells 14 0 0 0 s.ep s.n (.slice (some ⟨ob, 0, none⟩) s.own.length oc) (.slice none 0 0)).toArray (0, 0) _ HI.out.msg Tryz.underlying40 rfl info40 ?_)
          refine RP.mono ?_
          intro e w5 q1
          unfold PPost at q1
          obtain ⟨v5, rfl, hO5, hS5⟩ := q1
          have HN := Lib.hid (HI.out.step hS5 hO5 hobw)
          clear hO5 hS5 RP
          go_wp2_with fail
          go_roundw
          case rel =>
            refine ⟨k + 1, by omega, by go_num, ?_⟩
            have := HN.out
            rw [List.range_succ, List.map_append, ← List.append_assoc]
            exact this
          case measure => simp [intOf]; omega
        · have hkn : (k : Int) = s.n := by omega
          have hkt : s.n.toNat = k := by omega
          clear hI
          go_wp2_with fail
          go_loopw [3, 109] (fun v i wr => ∃ j : Nat, j ≤ 4 ∧ i = i64 j ∧ TI s ob oc T w0 (BS ++ (List.range k).map (fun (i : Nat) => ((i : Int), dataS (tableMs s))) ++ (List.range j).map (fun (i : Nat) => ((4 + i : Int), dataS (tableMs s)))) v wr) (fun _ i _ => 4 - (intOf i).toNat)
          case atStart => exact ⟨0, by omega, rfl, by simpa using HI.out⟩
          case round =>
            obtain ⟨j, hj, rfl, hJ⟩ := hrel
            have HJ := Lib.hid hJ
            by_cases hj4 : j < 4
            · have RP := HPost.out wr u3 _ (4 + j) hJ.row (by simp; omega) hJ.own
              clear hJ
              go_wp2_with (refine wpList_load_row rfl 40 (.tmp 9) rfl T rfl 40 (mcells 14 0 0 0 s.ep s.n (.slice (some ⟨ob, 0, none⟩) s.own.length oc) (.slice none 0 0)).toArray (0, 0) _ HJ.out.msg Tryz.underlying40 rfl info40 ?_)
              refine RP.mono ?_
              intro e w5 q1
              unfold PPost at q1
              obtain ⟨v5, rfl, hO5, hS5⟩ := q1
              have HN := Lib.hid (HJ.out.step hS5 hO5 hobw)
              clear hO5 hS5 RP
              go_wp2_with fail
              go_roundw
              case rel =>
                refine ⟨j + 1, by omega, by go_num, ?_⟩
                have := HN.out
                rw [List.range_succ, List.map_append, ← List.append_assoc]
                exact this
              case measure => simp [intOf]; omega
            · have hj5 : j = 4 := by omega
              subst hj5
              clear hJ
              go_wp2_with fail
              go_ret
              refine ⟨_, rfl, ?_, fun q hq => Nat.le_trans HE0.out.size (HJ.out.vb q hq).2, HE0.out.trans HJ.out.ext⟩
              unfold St.tick
              rw [hkt, HBS.out]
              exact HJ.out.row
end
end Go.Proofs.YtchmhkdnegngdaaGreat
