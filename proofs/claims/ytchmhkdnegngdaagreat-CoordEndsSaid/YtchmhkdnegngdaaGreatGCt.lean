/- coord: Ended, Table, post. coord: Moves. -/
import Derived.Test.YtchmhkdnegngdaaGreatGCh
import Derived.Test.YtchmhkdnegngdaaGreatGDt
set_option linter.unusedVariables false
set_option linter.unusedSimpArgs false
namespace Go.Proofs.YtchmhkdnegngdaaGreat
open Go.RowKit

section
theorem ended_calls (c : Nat) (F : List Nat) (s : St) (w : World) (h : CR w c F s) :
    Calls Tryz.prog 19 #[.pointer (some ⟨c, 0, none⟩)] w (fun e w' => e = .returned (.tuple #[i64 s.com, i64 s.ab]) ∧ Ext w w') := by
  have hno := none_calls c F s w h
  obtain ⟨ob, oc, b, a, m, rfl, h⟩ := h
  have k0 := h.blk.read.1
  simp only [coordCells] at k0
  have k5 := k0 5
  have k6 := k0 6
  simp only [List.getElem?_cons_succ, List.getElem?_cons_zero] at k5 k6
  clear k0 h
  go_enter Tryz.func19, Tryz.ntmps19
  go_wp2_with fail
  refine hno.mono ?_
  rintro e w1 ⟨rfl, rfl⟩
  go_wp2_with fail
  go_quiet (fail)
  go_wp2_with fail
  go_ret2
  exact ⟨rfl, by (refine Mod.to_ext (S := []) ?_ (by simp); repeat (first | (with_reducible exact Mod.refl _ _) | (with_reducible assumption) | (with_reducible refine Mod.alloc ?_ _) | (with_reducible refine Mod.drew ?_) | (with_reducible refine Mod.drewN ?_ _)))⟩

def TablePost (s : St) (w : World) (e : Ending) (w' : World) : Prop :=
  ∃ g gc, e = .returned (.agg #[i64 s.ep, i64 s.n, .slice (some ⟨g, 0, none⟩) s.own.length gc]) ∧ IA w' g 0 s.own ∧ w.heap.size ≤ g ∧ g < w'.heap.size ∧ Ext w w'

theorem table_calls (c : Nat) (F : List Nat) (s : St) (w : World) (h : CR w c F s) (hl : s.own.length ≤ 4096) (h0 : 0 < s.own.length) :
    Calls Tryz.prog 16 #[.pointer (some ⟨c, 0, none⟩)] w (TablePost s w) := by
  have e1 : Ext w (w.alloc (.cells #[i64 0, i64 0, .slice none 0 0] 28)) := by (refine Mod.to_ext (S := []) ?_ (by simp); repeat (first | (with_reducible exact Mod.refl _ _) | (with_reducible assumption) | (with_reducible refine Mod.alloc ?_ _) | (with_reducible refine Mod.drew ?_) | (with_reducible refine Mod.drewN ?_ _)))
  have hno := none_calls c F s _ (h.ext e1)
  obtain ⟨ob, oc, b, a, m, rfl, h⟩ := h
  have k0 := (h.ext e1).blk.read.1
  simp only [coordCells] at k0
  have hlt := h.blk.lt
  have R := copy_calls s.ep s.n ob 0 oc s.own _ hl (h.ext e1).own h0
  have b2 := Blk.new w [i64 0, i64 0, .slice none 0 0] 28
  have j0 := k0 0
  have j1 := k0 1
  have j2 := k0 2
  simp only [List.getElem?_cons_succ, List.getElem?_cons_zero] at j0 j1 j2
  have HE1 := Lib.hid e1
  have HB2 := Lib.hid b2
  clear k0 h e1 b2
  go_enter Tryz.func16, Tryz.ntmps16
  go_wp2_with fail
  refine hno.mono ?_
  rintro e w1 ⟨rfl, rfl⟩
  clear hno
  go_wp2_with fail
  refine R.mono ?_
  intro e w3 q0
  unfold NewTable at q0
  obtain ⟨g, gc, rfl, ho, hE3⟩ := q0
  obtain ⟨g', gc', heq, hg0, hg1, hI, _⟩ := ownsRow_IA ho h0
  have hgg : g = g' := by injection heq with h1 _ _; injection h1 with h1; injection h1 with h1
  subst hgg
  simp only [World.size_alloc] at hg0
  have hb3 := HB2.out.ext hE3
  obtain ⟨x0, z0⟩ := hb3.read
  have HB3 := Lib.hid hb3
  have HI := Lib.hid hI
  have HE3 := Lib.hid (HE1.out.trans hE3)
  clear hb3 hI hE3 ho heq R j0 j1 j2
  go_wp2_with fail
  have hbl := ((HB3.out.set 0 (i64 s.ep)).set 1 (i64 s.n)).set 2 (.slice (some ⟨g, 0, none⟩) s.own.length gc)
  refine bodyPost_ret (v := .agg #[i64 s.ep, i64 s.n, .slice (some ⟨g, 0, none⟩) s.own.length gc]) (results_cell_row rfl _ _ w.heap.size 28 _ (0, 0) _ rfl hbl Tryz.underlying28 rfl (by kernel_rfl)) rfl ?_
  unfold TablePost
  refine ⟨g, gc, rfl, IA.mod (S := [w.heap.size]) HI.out (by repeat (first | (with_reducible exact Mod.refl _ _) | (with_reducible assumption) | (with_reducible refine Mod.setCell ?_ (by simp) _) | (with_reducible refine Mod.alloc ?_ _) | (with_reducible refine Mod.drew ?_) | (with_reducible refine Mod.drewN ?_ _))) (by simp; omega), by omega, by simpa only [World.size_setCell] using hg1, ?_⟩
  have M0 : Mod [w.heap.size] w w3 := Mod.of_ext HE3.out
  refine Mod.to_ext (S := [w.heap.size]) ?_ (by simp)
  repeat (first | (with_reducible exact Mod.refl _ _) | (with_reducible assumption) | (with_reducible refine Mod.setCell ?_ (by simp) _) | (with_reducible refine Mod.alloc ?_ _) | (with_reducible refine Mod.drew ?_) | (with_reducible refine Mod.drewN ?_ _))

theorem info43 : (Tryz.prog.info? 43).map (fun i => (i.zero, i.size, i.bytes)) = some (some (.agg #[i64 0, i64 0, .string ⟨#[]⟩]), 3, 32) := by kernel_rfl

def pcells (p : Int × ByteArray) : List Value := [i64 8, i64 p.1, .string p.2]

/-- a slice of packets from the coordinator that its holder owns -/
def PRow (w : World) (v : Value) (ps : List (Int × ByteArray)) : Prop := w.ownsRow 0 43 3 v ps.length (ps.flatMap pcells)

theorem PRow.mod {S : List Nat} {w w' : World} {v : Value} {ps : List (Int × ByteArray)} (h : PRow w v ps) (m : Mod S w w') (hs : ∀ g, v.ownBlock = some g → g ∉ S) : PRow w' v ps :=
  ownsRow_same h fun g hg => m.block g (World.ownsRow.lt h g hg).2 (hs g hg)
theorem PRow.ext {w w' : World} {v : Value} {ps : List (Int × ByteArray)} (h : PRow w v ps) (m : Ext w w') : PRow w' v ps := h.mod (S := []) (Mod.of_ext m) (by simp)

/-- a slice of packets that comes back with ps in it -/
def PPost (w : World) (v : Value) (ps : List (Int × ByteArray)) (e : Ending) (w' : World) : Prop :=
  ∃ v', e = .returned v' ∧ PRow w' v' ps ∧ Step w v v' w'

theorem news_pk {w : World} {b : Nat} (p : Int × ByteArray) (h : Blk w b [i64 8, i64 p.1, .string p.2] 43) :
    ∀ j u, (pcells p)[j]? = some u → w.cell? ((⟨b, 0, none⟩ : Addr).add j) = some u := by
  intro j u hj
  rw [addr_add, h.read.1, Nat.zero_add]
  exact hj

set_option maxRecDepth 100000 in
set_option maxHeartbeats 800000 in
theorem post_calls (v : Value) (ps : List (Int × ByteArray)) (dst : Int) (m : Ms) (o : Value) (w : World) (h : PRow w v ps) (hl : ps.length ≤ 10000) (hm : m.ok) (hs : Sl w o (ints m.owners)) :
    Calls Tryz.prog 46 #[v, i64 dst, .agg (m.cells o).toArray] w (PPost w v (ps ++ [(dst, dataS m)])) := by
  obtain ⟨i0, hi, hz0, hz1, hz2⟩ := info_parts info43
  have hcs := cells_ok m o hs.one
  obtain ⟨C, hC⟩ : ∃ C, C = (m.cells o).toArray := ⟨_, rfl⟩
  have e1 : Ext w (w.alloc (.cells C 40)) := by (refine Mod.to_ext (S := []) ?_ (by simp); repeat (first | (with_reducible exact Mod.refl _ _) | (with_reducible assumption) | (with_reducible refine Mod.alloc ?_ _) | (with_reducible refine Mod.drew ?_) | (with_reducible refine Mod.drewN ?_ _)))
  have R := Data_calls m o _ hm (hs.ext e1)
  rw [← hC] at hcs R ⊢
  have hi40 : (Tryz.prog.info? 40).map (·.size) = some C.size := by rw [hcs.1]; kernel_rfl
  have HI := Lib.hid hi40
  have F1 := Lib.hid (heap_alloc_new w (.cells C 40))
  have HE1 := Lib.hid e1
  have HP := Lib.hid h
  clear hC hcs hi40 e1 h hs
  go_enter Tryz.func46, Tryz.ntmps46
  go_wp2_with (first | (refine wpList_load_row rfl 40 (.tmp 5) rfl w.heap.size rfl 40 C (0, 0) _ F1.out Tryz.underlying40 rfl HI.out ?_))
  refine R.mono ?_
  rintro e w2 ⟨rfl, hE2⟩
  have HE2 := Lib.hid (HE1.out.trans hE2)
  clear hE2 R
  obtain ⟨D, hD⟩ : ∃ D, D = dataS m := ⟨_, rfl⟩
  rw [← hD]
  have HD := Lib.hid hD
  clear hD
  go_wp2_with (at_builtin; refine wpList_append_own_at _ rfl _ _ 33 rfl 0 43 i0 (.agg #[i64 0, i64 0, .string ⟨#[]⟩]) 3 32 Tryz.underlying33 hi hz0 hz1 hz2 rfl (by decide) v ps.length _ rfl ((HP.out.ext HE2.out).alloc _) ⟨w2.heap.size, 0, none⟩ 1 1 (pcells (dst, D)) rfl rfl (news_pk (dst, D) (Blk.at _ _ _ _ rfl)) (by intro u hu; simp [pcells] at hu; rcases hu with e | e | e <;> rw [e] <;> rfl) (by unfold maxLen; omega) (by omega) (Nat.zero_le _) ?_; intro v' w' ho hg hn hb)
  go_ret
  refine ⟨v', rfl, ?_, ?_⟩
  · unfold PRow
    rw [List.length_append, List.flatMap_append, ← HD.out]
    simpa using ho
  · have e3 : Ext w (w2.alloc (.cells #[i64 8, i64 dst, .string D] 43)) := HE2.out.trans (by (refine Mod.to_ext (S := []) ?_ (by simp); repeat (first | (with_reducible exact Mod.refl _ _) | (with_reducible assumption) | (with_reducible refine Mod.alloc ?_ _) | (with_reducible refine Mod.drew ?_) | (with_reducible refine Mod.drewN ?_ _))))
    exact Step.grown e3 hg hb
end

section
theorem info77 : (Tryz.prog.info? 77).map (fun i => (i.zero, i.size, i.bytes)) = some (some (.agg #[i64 0, i64 0, i64 0, i64 0, i64 0, i64 0]), 6, 48) := by kernel_rfl

def mvcells (x : Mv) : List Value := [i64 x.mv, i64 x.part, i64 x.fr, i64 x.dst, i64 x.st, i64 x.dn]

/-- what Moves leaves -/
def MovesPost (L : List Mv) (w : World) (e : Ending) (w' : World) : Prop :=
  ∃ v, e = .returned v ∧ w'.ownsRow w.heap.size 77 6 v L.length (L.flatMap mvcells) ∧ Ext w w'

theorem news_mv {w : World} {b : Nat} (x : Mv) (h : Blk w b (mvcells x) 77) :
    ∀ j u, (mvcells x)[j]? = some u → w.cell? ((⟨b, 0, none⟩ : Addr).add j) = some u := by
  intro j u hj
  rw [addr_add, h.read.1, Nat.zero_add]
  exact hj

theorem mv_one (x : Mv) : ∀ u ∈ mvcells x, u.oneCell' = true := by
  intro u hu
  simp only [mvcells, List.mem_cons, List.not_mem_nil, or_false] at hu
  rcases hu with e | e | e | e | e | e <;> rw [e] <;> rfl

set_option maxRecDepth 100000 in
set_option maxHeartbeats 3200000 in
theorem moves_calls (c : Nat) (F : List Nat) (s : St) (w : World) (h : CR w c F s) (hL : s.L.length ≤ 12) (hs : s.L.Pairwise (fun x y => x.mv < y.mv)) :
    Calls Tryz.prog 21 #[.pointer (some ⟨c, 0, none⟩)] w (MovesPost s.L w) := by
  obtain ⟨i0, hi, hz0, hz1, hz2⟩ := info_parts info77
  have hno := none_calls c F s w h
  obtain ⟨ob, oc, b, a, m, rfl, h⟩ := h
  have R := all_calls b m s.last (s.L.map Mv.ent) w h.book (by simpa using hL) (by rw [List.pairwise_map]; exact hs)
  have k0 := h.blk.read.1
  simp only [coordCells] at k0
  have k3 := k0 3
  simp only [List.getElem?_cons_succ, List.getElem?_cons_zero] at k3
  have HH := Lib.hid h
  have HS := Lib.hid hs
  clear k0 h hs
  go_enter Tryz.func21, Tryz.ntmps21
  go_wp2_with fail
  refine hno.mono ?_
  rintro e w1 ⟨rfl, rfl⟩
  clear hno
  go_wp2_with fail
  refine R.mono ?_
  intro e w0 q0
  unfold AllPost at q0
  obtain ⟨v0, rfl, hE, hE0⟩ := q0
  have HE0 := Lib.hid hE0
  clear R hE0 k3
  rcases hE with ⟨hn, rfl⟩ | ⟨hn, g, cap, rfl, hEB⟩
  · have hn : s.L = [] := by simpa using hn
    have HN := Lib.hid hn
    clear hn
    go_wp2_with fail
    refine wp_loop_once ?_
    go_wp2_with fail
    go_ret
    unfold MovesPost
    rw [HN.out]
    exact ⟨_, rfl, World.ownsRow_nil _ _ _ _, HE0.out⟩
  · have HEB := Lib.hid hEB
    clear hEB hn
    simp only [List.length_map]
    go_wp2_with fail
    go_loopw [3, 15] (fun v i wr => ∃ k : Nat, k ≤ s.L.length ∧ i = i64 k ∧ Ext w0 wr ∧ wr.ownsRow w0.heap.size 77 6 v k ((s.L.take k).flatMap mvcells)) (fun _ i _ => s.L.length - (intOf i).toNat)
    case atStart => exact ⟨0, by omega, rfl, Below.refl _ _, World.ownsRow_nil _ _ _ _⟩
    case round =>
      obtain ⟨k, hk, rfl, hE, ho⟩ := hrel
      have HE := Lib.hid hE
      have HO := Lib.hid ho
      by_cases hlt : k < s.L.length
      · obtain ⟨x, hx⟩ : ∃ x, s.L[k] = x := ⟨_, rfl⟩
        have hxm : x ∈ s.L := by rw [← hx]; exact List.getElem_mem hlt
        have hkl : k < (s.L.map Mv.ent).length := by simpa using hlt
        obtain ⟨a1, a2, a3, a4⟩ := (HEB.out.ext hE).cells k hkl
        have hge : (s.L.map Mv.ent)[k] = x.ent := by rw [List.getElem_map, hx]
        rw [hge] at a1 a2 a3 a4
        simp only [Mv.ent] at a1 a2 a3 a4
        have hC := (HH.out.ext HE0.out).ext hE
        have HC := Lib.hid hC
        have HXM := Lib.hid hxm
        have HX := Lib.hid hx
        have hCl := hC.blk.lt
        have hgl := (HEB.out.ext hE).lt
        clear hE ho hx hxm hge hC
        go_wp2_with fail
        have e1 : Ext wr (wr.alloc (.cells #[i64 x.mv, i64 x.part, i64 x.fr, i64 x.dst] 96)) := by (refine Mod.to_ext (S := []) ?_ (by simp); repeat (first | (with_reducible exact Mod.refl _ _) | (with_reducible assumption) | (with_reducible refine Mod.alloc ?_ _) | (with_reducible refine Mod.drew ?_) | (with_reducible refine Mod.drewN ?_ _)))
        have hC1 := HC.out.ext e1
        have hX1 := Blk.new wr [i64 x.mv, i64 x.part, i64 x.fr, i64 x.dst] 96
        have hO1 := HO.out.alloc (.cells #[i64 x.mv, i64 x.part, i64 x.fr, i64 x.dst] 96)
        have HE1 := Lib.hid (HE.out.trans e1)
        have hNl : w0.heap.size ≤ wr.heap.size := HE.out.size
        clear e1 a1 a2 a3 a4 hCl hgl
        revert hC1 hX1 hO1 HE1 hNl
        generalize wr.heap.size = N
        generalize hW : World.alloc wr (.cells [i64 x.mv, i64 x.part, i64 x.fr, i64 x.dst].toArray 96) = W1
        clear hW
        intro hC1 hX1 hO1 HE1 hNl
        have hlk := run_look_some (P := Tryz.prog) Tryz.underlying55 Tryz.underlying3 (show MapIs W1.drew a s.ats from hC1.ats.same rfl) x.mv false (atKey_mem HS.out HXM.out)
        have hlk2 := run_look_some (P := Tryz.prog) Tryz.underlying55 Tryz.underlying3 (show MapIs (W1.alloc (.cells #[i64 0, i64 0] 94)).drew a s.ats from (hC1.ats.alloc (.cells #[i64 0, i64 0] 94)).same rfl) x.mv false (atKey_mem HS.out HXM.out)
        unfold Mv.atv at hlk hlk2
        have r4 := hC1.blk.read.1 4
        have r0 := hX1.read.1 0
        have hl1 := hC1.blk.lt
        have hl2 := hX1.lt
        simp only [coordCells, List.getElem?_cons_succ, List.getElem?_cons_zero] at r4 r0
        have HX1 := Lib.hid hX1
        have HO1 := Lib.hid hO1
        clear hC1 hX1 hO1
        go_region_held3 (fun w' => w'.cell? ⟨c, 4, none⟩ = some (.map (some a)) ∧ w'.cell? ⟨N, 0, none⟩ = some (i64 x.mv)) (first | assumption | (refine ⟨?_, ?_⟩ <;> first | assumption | go_keep | (simp [*, go_sem]; done))) (fail)
        all_goals
          have e2 : Ext W1 (W1.alloc (.cells #[i64 x.st, i64 x.dn] 94)).drew := by (refine Mod.to_ext (S := []) ?_ (by simp); repeat (first | (with_reducible exact Mod.refl _ _) | (with_reducible assumption) | (with_reducible refine Mod.alloc ?_ _) | (with_reducible refine Mod.drew ?_) | (with_reducible refine Mod.drewN ?_ _)))
          have hX2 := HX1.out.ext e2
          have hA2 : Blk (W1.alloc (.cells #[i64 x.st, i64 x.dn] 94)).drew W1.heap.size [i64 x.st, i64 x.dn] 94 := (Blk.new W1 [i64 x.st, i64 x.dn] 94).drew
          have hO2 : World.ownsRow (W1.alloc (.cells #[i64 x.st, i64 x.dn] 94)).drew w0.heap.size 77 6 u3 k ((s.L.take k).flatMap mvcells) := HO1.out.alloc _
          have HE2 := Lib.hid (HE1.out.trans e2)
          clear e2 hlk hlk2 r4 r0 hl1 hl2
          revert hX2 hA2 hO2 HE2
          generalize (W1.alloc (.cells #[i64 x.st, i64 x.dn] 94)).drew = W2
          generalize W1.heap.size = Q
          intro hX2 hA2 hO2 HE2
          obtain ⟨y1, z1⟩ := hX2.read
          obtain ⟨y2, z2⟩ := hA2.read
          have HO2 := Lib.hid hO2
          have hw02 : w0.heap.size ≤ W2.heap.size := HE2.out.size
          clear hX2 hA2 hO2
          go_wp2_with (at_builtin; refine wpList_append_own_at _ rfl _ _ 49 rfl w0.heap.size 77 i0 (.agg #[i64 0, i64 0, i64 0, i64 0, i64 0, i64 0]) 6 48 Tryz.underlying49 hi hz0 hz1 hz2 rfl (by decide) u3 k _ rfl (HO2.out.alloc _) ⟨W2.heap.size, 0, none⟩ 1 1 (mvcells x) rfl rfl (news_mv x (Blk.at _ _ _ _ rfl)) (mv_one x) (by unfold maxLen; omega) (by omega) (by simp; omega) ?_; intro v' w' hov hg hn hb)
          go_roundw
          case rel =>
            refine ⟨k + 1, by omega, by go_num, ?_, ?_⟩
            · have M : Mod [] w0 w' := Mod.grown ((Mod.of_ext HE2.out).alloc _) hg (fun j hj => by right; exact (World.ownsRow.lt HO2.out j hj).1)
              exact M.to_ext (by simp)
            · rw [List.take_succ_eq_append_getElem hlt, List.flatMap_append, HX.out]
              simpa using hov
          case measure => simp [intOf]; omega
      · have hkl : k = s.L.length := by omega
        clear hE ho
        go_wp2_with fail
        go_ret
        have h1 := HO.out
        rw [hkl, List.take_length] at h1
        exact ⟨_, rfl, ownsRow_base h1 HE0.out.size, HE0.out.trans HE.out⟩
end
end Go.Proofs.YtchmhkdnegngdaaGreat
