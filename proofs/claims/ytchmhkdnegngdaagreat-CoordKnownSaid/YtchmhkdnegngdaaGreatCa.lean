/- coord: Abort. -/
import Derived.Deep.DrawnRows
import Derived.Test.YtchmhkdnegngdaaGreatCq
set_option linter.unusedVariables false
set_option linter.unusedSimpArgs false
namespace Go.Proofs.YtchmhkdnegngdaaGreat
open Go.RowKit


def setAt (k st dn : Int) : List Mv → List Mv
  | [] => []
  | x :: L => if k = x.mv then { x with st := st, dn := dn } :: L else x :: setAt k st dn L

theorem setAt_put {k st dn : Int} : ∀ {L : List Mv}, (∃ x ∈ L, x.mv = k) →
    putKey k (.agg #[i64 st, i64 dn]) (L.map fun y => (y.mv, y.atv)) = (setAt k st dn L).map fun y => (y.mv, y.atv)
  | [], h => by obtain ⟨x, hx, _⟩ := h; cases hx
  | y :: L, h => by
    rw [List.map_cons, putKey, setAt]
    by_cases e : k = y.mv
    · rw [if_pos e, if_pos e]; rfl
    · rw [if_neg e, if_neg e, List.map_cons]
      obtain ⟨x, hx, hk⟩ := h
      rcases List.mem_cons.1 hx with e2 | hx
      · subst e2; exact (e hk.symm).elim
      · rw [setAt_put ⟨x, hx, hk⟩]

theorem setAt_ent (k st dn : Int) : ∀ (L : List Mv), (setAt k st dn L).map Mv.ent = L.map Mv.ent
  | [] => rfl
  | y :: L => by
    rw [setAt]
    split
    · rfl
    · rw [List.map_cons, List.map_cons, setAt_ent k st dn L]

theorem atKey_mem {L : List Mv} (hs : L.Pairwise (fun x y => x.mv < y.mv)) {x : Mv} (hx : x ∈ L) : atKey x.mv (L.map fun y => (y.mv, y.atv)) = some x.atv := by
  induction L with
  | nil => cases hx
  | cons y L ih =>
    rw [List.map_cons, atKey_cons]
    rw [List.pairwise_cons] at hs
    rcases List.mem_cons.1 hx with e | hx
    · subst e; rw [if_pos rfl]
    · have := hs.1 x hx
      rw [if_neg (by omega)]
      exact ih hs.2 hx

theorem field94 (x y : Int) (w : World) : (Instr.field 94 (.agg #[i64 x, i64 y]) 0).run Tryz.prog w = .ok (i64 x) w := by kernel_rfl

def St.byPart (s : St) (part : Int) : Option Mv := s.L.find? (fun x => x.part == part)

theorem entOf_byPart (s : St) (part : Int) : entOf (s.L.map Mv.ent) part = (s.byPart part).map Mv.ent := by
  unfold entOf St.byPart
  rw [List.find?_map]
  rfl

def St.abort (s : St) (part : Int) : St × Int :=
  if part < 0 ∨ (s.own.length : Int) ≤ part then (s, 21)
  else match s.byPart part with
    | none => (s, 4)
    | some x => if x.st = 1 then ({ s with L := setAt x.mv 3 0 s.L }, 0) else (s, 11)

theorem CRAt.ats_set {W w9 : World} {c : Nat} {s : St} {ob oc b a : Nat} {m : Option Nat} {L' : List Mv} (h : CRAt W c s ob oc b a m) (hM : Mod [a] W w9) (hA : MapIs w9 a (L'.map fun y => (y.mv, y.atv))) (he : L'.map Mv.ent = s.L.map Mv.ent) :
    CRAt w9 c { s with L := L' } ob oc b a m := by
  obtain ⟨n1, n2, n3, n4, n5, n6, n7⟩ := mem_nodup h.nd
  refine ⟨h.blk.mod hM (by simpa using n2), h.own.mod hM (by simp; exact fun e => n6 e.symm), Nat.lt_of_lt_of_le h.obl hM.size, ?_, hA, h.nd⟩
  have hb := h.book.mod hM (by simpa using n4) (fun r hr => by simpa using (n7 r hr).2.2.1)
  show BookIs w9 b m s.last (L'.map Mv.ent)
  rw [he]; exact hb

set_option maxRecDepth 100000 in
set_option maxHeartbeats 1600000 in
theorem cabort_calls (c : Nat) (F : List Nat) (s : St) (part : Int) (w : World) (h : CR w c F s) (hs : s.L.Pairwise (fun x y => x.mv < y.mv)) :
    Calls Tryz.prog 12 #[.pointer (some ⟨c, 0, none⟩), i64 part] w (CPost w c F (s.abort part).1 (i64 (s.abort part).2)) := by
  have hno := none_calls c F s w h
  have HH0 := Lib.hid h
  obtain ⟨ob, oc, b, a, m, rfl, h⟩ := h
  have R := of_calls b m s.last (s.L.map Mv.ent) part w h.book
  rw [entOf_byPart] at R
  have hlt := h.blk.lt
  obtain ⟨c0, f0⟩ := h.blk.read
  have k2 := c0 2
  have k3 := c0 3
  have k4 := c0 4
  simp only [coordCells, List.getElem?_cons_succ, List.getElem?_cons_zero] at k2 k3 k4
  have HS := Lib.hid hs
  have HH := Lib.hid h
  clear c0 f0 h hs
  by_cases hr : part < 0 ∨ (s.own.length : Int) ≤ part
  · have hv : s.abort part = (s, 21) := by unfold St.abort; rw [if_pos hr]
    rw [hv]
    clear hv
    generalize (Option.map Mv.ent (s.byPart part)) = oe at R
    go_enter Tryz.func12, Tryz.ntmps12
    go_wp2_with fail
    refine hno.mono ?_
    rintro e w1 ⟨rfl, rfl⟩
    go_wp2_with fail
    refine R.mono ?_
    intro e w2 q0
    unfold OfPost at q0
    obtain ⟨rfl, hE⟩ := q0
    have hb := bcell hE
    have j2 := (hb.1 c 2 hlt).trans k2
    have HE := Lib.hid hE
    have hcw : c < w2.heap.size := Nat.lt_of_lt_of_le hlt hE.size
    clear hb hE R k2 k3 k4
    unfold Ent.val
    by_cases h0 : part < 0
    · go_wp2_with fail
      go_ret
      refine ⟨rfl, CStep.same HH0.out (HE.out.trans ?_)⟩
      (refine Mod.to_ext (S := []) ?_ (by simp); repeat (first | (with_reducible exact Mod.refl _ _) | (with_reducible assumption) | (with_reducible refine Mod.alloc ?_ _) | (with_reducible refine Mod.drew ?_) | (with_reducible refine Mod.drewN ?_ _)))
    · have h1 : (s.own.length : Int) ≤ part := by omega
      go_wp2_with fail
      go_ret
      refine ⟨rfl, CStep.same HH0.out (HE.out.trans ?_)⟩
      (refine Mod.to_ext (S := []) ?_ (by simp); repeat (first | (with_reducible exact Mod.refl _ _) | (with_reducible assumption) | (with_reducible refine Mod.alloc ?_ _) | (with_reducible refine Mod.drew ?_) | (with_reducible refine Mod.drewN ?_ _)))
  · have hr0 : ¬ part < 0 := fun e => hr (.inl e)
    have hr1 : ¬ (s.own.length : Int) ≤ part := fun e => hr (.inr e)
    cases hx : s.byPart part with
    | none =>
      have hv : s.abort part = (s, 4) := by unfold St.abort; rw [if_neg hr, hx]
      rw [hv]
      rw [hx] at R
      clear hv hx hr
      go_enter Tryz.func12, Tryz.ntmps12
      go_wp2_with fail
      refine hno.mono ?_
      rintro e w1 ⟨rfl, rfl⟩
      go_wp2_with fail
      refine R.mono ?_
      intro e w2 q0
      unfold OfPost at q0
      obtain ⟨rfl, hE⟩ := q0
      have hb := bcell hE
      have j2 := (hb.1 c 2 hlt).trans k2
      have HE := Lib.hid hE
      have hcw : c < w2.heap.size := Nat.lt_of_lt_of_le hlt hE.size
      clear hb hE R k2 k3 k4
      simp only [Option.map_none, Option.getD_none, Option.isSome_none, zeroEnt, Ent.val]
      go_wp2_with fail
      go_ret
      refine ⟨rfl, CStep.same HH0.out (HE.out.trans ?_)⟩
      (refine Mod.to_ext (S := []) ?_ (by simp); repeat (first | (with_reducible exact Mod.refl _ _) | (with_reducible assumption) | (with_reducible refine Mod.alloc ?_ _) | (with_reducible refine Mod.drew ?_) | (with_reducible refine Mod.drewN ?_ _)))
    | some x =>
      have hxm : x ∈ s.L := List.mem_of_find?_eq_some hx
      have hak := atKey_mem HS.out hxm
      have hlk := run_look_some (P := Tryz.prog) Tryz.underlying55 Tryz.underlying3 HH.out.ats x.mv false hak
      rw [hx] at R
      have HX := Lib.hid hx
      have HXM := Lib.hid hxm
      clear hx hxm hak
      go_enter Tryz.func12, Tryz.ntmps12
      go_wp2_with fail
      refine hno.mono ?_
      rintro e w1 ⟨rfl, rfl⟩
      go_wp2_with fail
      refine R.mono ?_
      intro e w2 q0
      unfold OfPost at q0
      obtain ⟨rfl, hE⟩ := q0
      have hlk2 : (Instr.lookup 55 (.map (some a)) (i64 x.mv) false).run Tryz.prog ((w2.alloc (.cells #[i64 x.mv, i64 x.part, i64 x.fr, i64 x.dst] 96)).drew) = .ok x.atv ((w2.alloc (.cells #[i64 x.mv, i64 x.part, i64 x.fr, i64 x.dst] 96)).drew) := by
        have e3 : Ext w2 ((w2.alloc (.cells #[i64 x.mv, i64 x.part, i64 x.fr, i64 x.dst] 96)).drew) := by (refine Mod.to_ext (S := []) ?_ (by simp); repeat (first | (with_reducible exact Mod.refl _ _) | (with_reducible assumption) | (with_reducible refine Mod.alloc ?_ _) | (with_reducible refine Mod.drew ?_) | (with_reducible refine Mod.drewN ?_ _)))
        exact run_look_some (P := Tryz.prog) Tryz.underlying55 Tryz.underlying3 ((HH.out.ats.ext hE).ext e3) x.mv false (atKey_mem HS.out HXM.out)
      have hb := bcell hE
      have j2 := (hb.1 c 2 hlt).trans k2
      have j4 := (hb.1 c 4 hlt).trans k4
      have HE := Lib.hid hE
      have hcw : c < w2.heap.size := Nat.lt_of_lt_of_le hlt hE.size
      have hcn : ¬ c = w2.heap.size := by omega
      clear hb hE R k2 k3 k4 hlk
      simp only [Option.map_some, Option.getD_some, Option.isSome_some, Mv.ent, Ent.val]
      unfold Mv.atv at hlk2
      have hfd := field94
      go_wp2_with fail
      go_region_held3 (fun w' => w'.cell? ⟨c, 4, none⟩ = some (.map (some a)) ∧ w'.cell? ⟨w2.heap.size, 0, none⟩ = some (i64 x.mv)) (first | assumption | (simp [*, go_sem]; done)) (fail)
      have HX2 := HH.out.ext HE.out
      have e8 : Ext w2 (w2.alloc (.cells #[i64 x.mv, i64 x.part, i64 x.fr, i64 x.dst] 96)).drew := by (refine Mod.to_ext (S := []) ?_ (by simp); repeat (first | (with_reducible exact Mod.refl _ _) | (with_reducible assumption) | (with_reducible refine Mod.alloc ?_ _) | (with_reducible refine Mod.drew ?_) | (with_reducible refine Mod.drewN ?_ _)))
      have HX3 := Lib.hid (HX2.ext e8)
      have hE8 := Lib.hid (HE.out.trans e8)
      have hv : s.abort part = (if x.st = 1 then ({ s with L := setAt x.mv 3 0 s.L }, 0) else (s, 11)) := by
        unfold St.abort; rw [if_neg hr, HX.out]
      have HV := Lib.hid hv
      have r4 := (HX2.ext e8).blk.read.1 4
      have r0 := ((Blk.new w2 [i64 x.mv, i64 x.part, i64 x.fr, i64 x.dst] 96).drew).read.1 0
      simp only [coordCells, List.getElem?_cons_succ, List.getElem?_cons_zero] at r4 r0
      clear e8 HX2 hv hlk2 j2 j4
      revert HX3 hE8 r4 r0
      generalize hN : w2.heap.size = N
      generalize (w2.alloc (.cells #[i64 x.mv, i64 x.part, i64 x.fr, i64 x.dst] 96)).drew = W at *
      intro HX3 hE8 r4 r0
      by_cases h1 : x.st = 1
      · obtain ⟨w9, hup, hA9, hM9, hsz9⟩ := run_update (P := Tryz.prog) Tryz.underlying55 Tryz.underlying3 (show MapIs W.drew a s.ats from HX3.out.ats.same rfl) x.mv (.agg #[i64 3, i64 0])
        have h1b : (x.st != 1) = false := by simp [h1]
        have HA9 := Lib.hid hA9
        have HM9 := Lib.hid hM9
        have H1 := Lib.hid h1
        have s4 : w9.cell? ⟨c, 4, none⟩ = some (.map (some a)) := by
          have hc : Blk w9 c (coordCells s ob oc b a) 57 := Blk.mod (w := W.drew) HX3.out.blk hM9 (by simpa using (mem_nodup HH.out.nd).2.1)
          exact hc.read.1 4
        have s0 : w9.cell? ⟨N, 0, none⟩ = some (i64 x.mv) := by
          have hlta := HH.out.ats.lt
          have hw2 := HE.out.size
          exact (World.cell?_of_block (hM9.block N (World.block_lt_of_cell? W _ r0) (by simp; omega))).trans r0
        clear hA9 hM9 h1
        go_wp2_with fail
        go_region_held3 (fun w' => w'.cell? ⟨c, 4, none⟩ = some (.map (some a)) ∧ w'.cell? ⟨N, 0, none⟩ = some (i64 x.mv)) (first | assumption | (simp [*, go_sem]; done)) (fail)
        go_wp2_with fail
        go_ret
        rw [HV.out, if_pos H1.out]
        have hm9 : Mod [a] W w9 := HM9.out.undrew'
        have hk := setAt_put (k := x.mv) (st := 3) (dn := 0) ⟨x, HXM.out, rfl⟩
        have hA : MapIs w9 a ((setAt x.mv 3 0 s.L).map fun y => (y.mv, y.atv)) := by
          rw [← hk]; exact HA9.out
        refine ⟨rfl, c :: b :: a :: ob :: m.toList, ⟨ob, oc, b, a, m, rfl, HX3.out.ats_set hm9 hA (setAt_ent ..)⟩, ?_, fun _ hk => .inl hk⟩
        exact (Mod.of_ext hE8.out).step hm9 (by simp)
      · have H1 := Lib.hid h1
        have h1b : (x.st != 1) = true := by simpa using h1
        go_wp2_with fail
        go_ret
        rw [HV.out, if_neg H1.out]
        exact ⟨rfl, CStep.same HH0.out hE8.out⟩
end Go.Proofs.YtchmhkdnegngdaaGreat
