/- coord: done. -/
import Derived.Test.YtchmhkdnegngdaaGreatGCy
set_option linter.unusedVariables false
set_option linter.unusedSimpArgs false
namespace Go.Proofs.YtchmhkdnegngdaaGreat
open Go.RowKit

section
def dnOf (x : Mv) (from_ : Int) : Int :=
  if from_ = x.fr then bits BinOp.or IntKind.i64 x.dn 1 else if from_ = x.dst then bits BinOp.or IntKind.i64 x.dn 2 else x.dn

def delMv (k : Int) : List Mv → List Mv
  | [] => []
  | x :: L => if k = x.mv then L else x :: delMv k L

theorem delMv_key (k : Int) : ∀ (L : List Mv), delKey k (L.map fun y => (y.mv, y.atv)) = (delMv k L).map fun y => (y.mv, y.atv)
  | [] => rfl
  | y :: L => by
    rw [List.map_cons, delKey, delMv]
    split
    · rfl
    · rw [List.map_cons, delMv_key k L]

theorem delMv_ent {x : Mv} : ∀ {L : List Mv}, x ∈ L → L.Pairwise (fun x y => x.mv < y.mv) → L.Pairwise (fun x y => x.part ≠ y.part) → delEnt (L.map Mv.ent) x.part = (delMv x.mv L).map Mv.ent
  | [], hx, _, _ => by cases hx
  | y :: L, hx, hs, hp => by
    rw [List.pairwise_cons] at hs hp
    rw [List.map_cons, delMv]
    unfold delEnt
    rw [List.eraseP_cons]
    rcases List.mem_cons.1 hx with e | hx
    · subst e
      rw [if_pos rfl]
      simp [Mv.ent]
    · have h1 := hs.1 x hx
      have h2 := hp.1 x hx
      have hq : ((y.ent.part == x.part) = false) := by simpa [Mv.ent] using h2
      rw [if_neg (by omega), hq]
      simp only [cond_false, List.map_cons]
      have := delMv_ent hx hs.2 hp.2
      unfold delEnt at this
      rw [this]

theorem delMv_setAt (k st dn : Int) : ∀ L : List Mv, delMv k (setAt k st dn L) = delMv k L
  | [] => rfl
  | x :: L => by
    rw [setAt, delMv]
    by_cases e : k = x.mv
    · rw [if_pos e, if_pos e, delMv, if_pos e]
    · rw [if_neg e, if_neg e, delMv, if_neg e, delMv_setAt k st dn L]

def St.done (s : St) (x : Mv) (from_ : Int) : St × Bool :=
  (if dnOf x from_ = 3 then (if x.st = 2 then { s with L := delMv x.mv s.L, com := s.com + 1 } else { s with L := delMv x.mv s.L, ab := s.ab + 1 })
   else { s with L := setAt x.mv x.st (dnOf x from_) s.L }, dnOf x from_ != x.dn)

/-- a coordinator in memory, its book aside -/
structure CRAtOff (w : World) (c : Nat) (s : St) (ob oc b a : Nat) : Prop where
  blk : Blk w c (coordCells s ob oc b a) 57
  own : IA w ob 0 s.own
  obl : ob < w.heap.size
  ats : MapIs w a s.ats

set_option maxRecDepth 100000 in
set_option maxHeartbeats 3200000 in
theorem cdone_calls (c : Nat) (F : List Nat) (s : St) (x : Mv) (from_ : Int) (w : World) (h : CR w c F s) (hx : x ∈ s.L) (hs : s.L.Pairwise (fun x y => x.mv < y.mv)) (hp : s.L.Pairwise (fun x y => x.part ≠ y.part)) (hcom : s.com < 1000000000 ∧ s.ab < 1000000000 ∧ 0 ≤ s.com ∧ 0 ≤ s.ab) :
    Calls Tryz.prog 49 #[.pointer (some ⟨c, 0, none⟩), .agg #[i64 x.mv, i64 x.part, i64 x.fr, i64 x.dst], i64 from_] w (CPost w c F (s.done x from_).1 (.bool (s.done x from_).2)) := by
  obtain ⟨ob, oc, b, a, m, rfl, h⟩ := h
  obtain ⟨n1, n2, n3, n4, n5, n6, n7⟩ := mem_nodup h.nd
  have hlts := h.lt
  obtain ⟨d, hd⟩ : ∃ d, dnOf x from_ = d := ⟨_, rfl⟩
  have hcase : (((from_ == x.fr) = true ∧ bits BinOp.or IntKind.i64 x.dn 1 = d) ∨ ((from_ == x.fr) = false ∧ (from_ == x.dst) = true ∧ bits BinOp.or IntKind.i64 x.dn 2 = d) ∨ ((from_ == x.fr) = false ∧ (from_ == x.dst) = false ∧ x.dn = d)) := by
    unfold dnOf at hd
    by_cases e1 : from_ = x.fr
    · rw [if_pos e1] at hd; exact .inl ⟨by simpa using e1, hd⟩
    · rw [if_neg e1] at hd
      by_cases e2 : from_ = x.dst
      · rw [if_pos e2] at hd; exact .inr (.inl ⟨by simpa using e1, by simpa using e2, hd⟩)
      · rw [if_neg e2] at hd; exact .inr (.inr ⟨by simpa using e1, by simpa using e2, hd⟩)
  have e1 : Ext w (w.alloc (.cells #[i64 x.mv, i64 x.part, i64 x.fr, i64 x.dst] 96)) := by (refine Mod.to_ext (S := []) ?_ (by simp); repeat (first | (with_reducible exact Mod.refl _ _) | (with_reducible assumption) | (with_reducible refine Mod.alloc ?_ _) | (with_reducible refine Mod.drew ?_) | (with_reducible refine Mod.drewN ?_ _)))
  have hCA := h.ext e1
  have hXB := Blk.new w [i64 x.mv, i64 x.part, i64 x.fr, i64 x.dst] 96
  have hMW : Mod [c] w (w.alloc (.cells #[i64 x.mv, i64 x.part, i64 x.fr, i64 x.dst] 96)) := Mod.of_ext e1
  have hak := atKey_mem hs hx
  have HD := Lib.hid hd
  have HX := Lib.hid hx
  have HSS := Lib.hid hs
  have HPP := Lib.hid hp
  have HCOM := Lib.hid hcom
  clear h e1 hd hx hs hp hcom
  go_enter Tryz.func49, Tryz.ntmps49
  go_wp2_with fail
  revert hCA hXB hMW
  generalize hW : World.alloc w (.cells [i64 x.mv, i64 x.part, i64 x.fr, i64 x.dst].toArray 96) = W1
  clear hW
  intro hCA hXB hMW
  have hlk := run_look_some (P := Tryz.prog) Tryz.underlying55 Tryz.underlying3 (show MapIs W1.drew a s.ats from hCA.ats.same rfl) x.mv false hak
  have hlk2 := run_look_some (P := Tryz.prog) Tryz.underlying55 Tryz.underlying3 (show MapIs (W1.alloc (.cells #[i64 0, i64 0] 94)).drew a s.ats from (hCA.ats.alloc (.cells #[i64 0, i64 0] 94)).same rfl) x.mv false hak
  have r4 := hCA.blk.read.1 4
  have r0 := hXB.read.1 0
  have hl1 := hCA.blk.lt
  have hl2 := hXB.lt
  simp only [coordCells, List.getElem?_cons_succ, List.getElem?_cons_zero] at r4 r0
  unfold Mv.atv at hlk hlk2
  go_region_held3 (fun w' => w'.cell? ⟨c, 4, none⟩ = some (.map (some a)) ∧ w'.cell? ⟨w.heap.size, 0, none⟩ = some (i64 x.mv)) (first | assumption | (refine ⟨?_, ?_⟩ <;> first | assumption | go_keep | (simp [*, go_sem]; done))) (fail)
  all_goals
    have e2 : Ext W1 (W1.alloc (.cells #[i64 x.st, i64 x.dn] 94)).drew := by (refine Mod.to_ext (S := []) ?_ (by simp); repeat (first | (with_reducible exact Mod.refl _ _) | (with_reducible assumption) | (with_reducible refine Mod.alloc ?_ _) | (with_reducible refine Mod.drew ?_) | (with_reducible refine Mod.drewN ?_ _)))
    have hC2 := hCA.ext e2
    have hX2 := hXB.ext e2
    have hA2 : Blk (W1.alloc (.cells #[i64 x.st, i64 x.dn] 94)).drew W1.heap.size [i64 x.st, i64 x.dn] 94 := (Blk.new W1 [i64 x.st, i64 x.dn] 94).drew
    have hM2 : Mod [c] w (W1.alloc (.cells #[i64 x.st, i64 x.dn] 94)).drew := hMW.ext e2
    have hqc : ¬ W1.heap.size = c := by omega
    have hqn : ¬ W1.heap.size = w.heap.size := by omega
    have hqa : W1.heap.size ≠ a := by have := hCA.ats.lt; omega
    have hwq : w.heap.size ≤ W1.heap.size := by omega
    clear hlk hlk2 hCA hXB hMW r4 r0 e2 hl1 hl2
    revert hC2 hX2 hA2 hM2
    generalize (W1.alloc (.cells #[i64 x.st, i64 x.dn] 94)).drew = W2
    generalize hq : W1.heap.size = q at *
    clear hq
    intro hC2 hX2 hA2 hM2
    obtain ⟨y1, z1⟩ := hX2.read
    obtain ⟨y2, z2⟩ := hA2.read
    have HC2 := Lib.hid hC2
    have HX2 := Lib.hid hX2
    have HA2 := Lib.hid hA2
    have HM2 := Lib.hid hM2
    clear hC2 hX2 hA2 hM2
    rcases hcase with ⟨h1, h2⟩ | ⟨h1, h1b, h2⟩ | ⟨h1, h1b, h2⟩
  all_goals
    go_wp2_with fail
  all_goals
    first
    | (have h2' : x.dn = d := h2
       have hA3 : Blk W2 q [i64 x.st, i64 d] 94 := by rw [← h2']; exact HA2.out
       have hC3 := HC2.out
       have hX3 := HX2.out
       have hM3 := HM2.out
       clear y1 z1 y2 z2 HC2 HX2 HA2 HM2 h2'
       revert hA3 hC3 hX3 hM3
       generalize W2 = W3
       intro hA3 hC3 hX3 hM3)
    | (have hM23 : Mod [q] W2 (W2.setCell ⟨q, 1, none⟩ (i64 d)) := by repeat (first | (with_reducible exact Mod.refl _ _) | (with_reducible assumption) | (with_reducible refine Mod.setCell ?_ (by simp) _) | (with_reducible refine Mod.alloc ?_ _) | (with_reducible refine Mod.drew ?_) | (with_reducible refine Mod.drewN ?_ _))
       have hA3 : Blk (W2.setCell ⟨q, 1, none⟩ (i64 d)) q [i64 x.st, i64 d] 94 := HA2.out.set 1 (i64 d)
       have hC3 := HC2.out.mod hM23 (by intro k hk; have := hlts k hk; simp; omega)
       have hX3 := HX2.out.mod hM23 (by simp; omega)
       have hM3 := HM2.out.setCell (p := ⟨q, 1, none⟩) (by right; exact hwq) (i64 d)
       clear y1 z1 y2 z2 HC2 HX2 HA2 HM2 hM23
       revert hA3 hC3 hX3 hM3
       generalize W2.setCell ⟨q, 1, none⟩ (i64 d) = W3
       intro hA3 hC3 hX3 hM3)
  all_goals
    obtain ⟨w9, hup, hA9, hM9, hsz9⟩ := run_update (P := Tryz.prog) Tryz.underlying55 Tryz.underlying3 (show MapIs W3.drew a s.ats from hC3.ats.same rfl) x.mv (.agg #[i64 x.st, i64 d])
    have r4 := hC3.blk.read.1 4
    have r0 := hX3.read.1 0
    have p0 := hA3.read.1 0
    have p1 := hA3.read.1 1
    have s4 := (Blk.mod (w := W3.drew) hC3.blk hM9 (by simpa using n2)).read.1 4
    have s0 := (Blk.mod (w := W3.drew) hX3 hM9 (by have := hlts a (by simp); simp; omega)).read.1 0
    have t0 := (Blk.mod (w := W3.drew) hA3 hM9 (by simpa using hqa)).read.1 0
    have t1 := (Blk.mod (w := W3.drew) hA3 hM9 (by simpa using hqa)).read.1 1
    simp only [coordCells, List.getElem?_cons_succ, List.getElem?_cons_zero] at r4 r0 s4 s0 p0 p1 t0 t1
    have HA9 := Lib.hid hA9
    have HM9 := Lib.hid hM9
    have HC3 := Lib.hid hC3
    have HX3 := Lib.hid hX3
    have HA3 := Lib.hid hA3
    have HM3 := Lib.hid hM3
    clear hA9 hM9 hC3 hX3 hA3 hM3
    go_region_held3 (fun w' => w'.cell? ⟨c, 4, none⟩ = some (.map (some a)) ∧ w'.cell? ⟨w.heap.size, 0, none⟩ = some (i64 x.mv) ∧ w'.cell? ⟨q, 0, none⟩ = some (i64 x.st) ∧ w'.cell? ⟨q, 1, none⟩ = some (i64 d)) (first | assumption | (refine ⟨?_, ?_, ?_, ?_⟩ <;> first | assumption | (simp [*, go_sem]; done))) (fail)
  all_goals
    have hm9 : Mod [a] W3 w9 := HM9.out.undrew'
    have hC9 : CRAt w9 c { s with L := setAt x.mv x.st d s.L } ob oc b a m := by
      have hk := setAt_put (k := x.mv) (st := x.st) (dn := d) ⟨x, HX.out, rfl⟩
      have hA : MapIs w9 a ((setAt x.mv x.st d s.L).map fun y => (y.mv, y.atv)) := by
        rw [← hk]; exact HA9.out
      exact HC3.out.ats_set hm9 hA (setAt_ent ..)
    have hM9 : Mod (c :: b :: a :: ob :: m.toList) w w9 := by
      have M1 : Mod (c :: b :: a :: ob :: m.toList) w W3 := HM3.out.mono (by simp)
      exact M1.step hm9 (by simp)
    have hX9 := HX3.out.mod hm9 (by have := hlts a (by simp); simp; omega)
    have hA9' := HA3.out.mod hm9 (by simpa using hqa)
    clear hm9 HM9 HA9 HC3 HX3 HA3 HM3 hup hsz9 r4 r0 p0 p1 s4 s0 t0 t1
    have HC9 := Lib.hid hC9
    have HMM := Lib.hid hM9
    have HX9 := Lib.hid hX9
    have HA9 := Lib.hid hA9'
    clear hC9 hM9
    by_cases hd3 : d = 3
  all_goals first
  | (have hd3b : (d == 3) = false := by simpa using hd3
     obtain ⟨y1, z1⟩ := hX9.read
     obtain ⟨y2, z2⟩ := hA9'.read
     clear hX9 hA9'
     go_wp2_with fail
     go_ret
     have hv : s.done x from_ = ({ s with L := setAt x.mv x.st d s.L }, d != x.dn) := by
       unfold St.done; rw [HD.out, if_neg hd3]
     rw [hv]
     refine ⟨?_, _, ⟨ob, oc, b, a, m, rfl, HC9.out⟩, HMM.out, fun _ hk => .inl hk⟩
     first | rfl | (have h2' : x.dn = d := h2; rw [h2']; rfl) | (have h2' : x.dn = d := h2; rw [h2']; simp))
  | (have hd3x : d = 3 := hd3)
  all_goals
    have hd3b : (d == 3) = true := by simpa using hd3
    have HD3 := Lib.hid hd3
    clear hd3 hd3x
    have hE := end_calls b m s.last ((setAt x.mv x.st d s.L).map Mv.ent) x.part w9.drew (HC9.out.book.ext (show Ext w9 w9.drew by (refine Mod.to_ext (S := []) ?_ (by simp); repeat (first | (with_reducible exact Mod.refl _ _) | (with_reducible assumption) | (with_reducible refine Mod.alloc ?_ _) | (with_reducible refine Mod.drew ?_) | (with_reducible refine Mod.drewN ?_ _))))) (fun e => (n7 b e).2.1 rfl)
    have J : ∀ w2, Mod m.toList w9.drew w2 → CRAtOff w2 c { s with L := setAt x.mv x.st d s.L } ob oc b a ∧ Blk w2 w.heap.size [i64 x.mv, i64 x.part, i64 x.fr, i64 x.dst] 96 ∧ Blk w2 q [i64 x.st, i64 d] 94 := by
      intro w2 hM
      have hM := hM.undrew'
      refine ⟨⟨HC9.out.blk.mod hM ?_, HC9.out.own.mod hM ?_, Nat.lt_of_lt_of_le HC9.out.obl hM.size, HC9.out.ats.mod hM ?_⟩, HX9.out.mod hM ?_, HA9.out.mod hM ?_⟩
      · simp; exact fun e => (n7 c e).1 rfl
      · simp; exact fun e => (n7 ob e).2.2.2 rfl
      · simp; exact fun e => (n7 a e).2.2.1 rfl
      · simp; intro e; have := hlts w.heap.size (by simp [e]); omega
      · simp; intro e; have := hlts q (by simp [e]); omega
    have y0 := HC9.out.blk.read.1
    obtain ⟨y1, z1⟩ := hX9.read
    obtain ⟨y2, z2⟩ := hA9'.read
    simp only [coordCells] at y0
    have y03 := y0 3
    have y04 := y0 4
    have y05 := y0 5
    have y06 := y0 6
    simp only [List.getElem?_cons_succ, List.getElem?_cons_zero] at y03 y04 y05 y06
    have J2 : ∀ w2, Mod m.toList w9.drew w2 → w2.cell? ⟨c, 3, none⟩ = some (.pointer (some ⟨b, 0, none⟩)) ∧ w2.cell? ⟨w.heap.size, 1, none⟩ = some (i64 x.part) ∧ w2.cell? ⟨c, 4, none⟩ = some (.map (some a)) ∧ w2.cell? ⟨w.heap.size, 0, none⟩ = some (i64 x.mv) := by
      intro w2 hM
      obtain ⟨K1, K2, K3⟩ := J w2 hM
      have d1 := K1.blk.read.1
      simp only [coordCells] at d1
      exact ⟨d1 3, K2.read.1 1, d1 4, K2.read.1 0⟩
    have HJ := Lib.hid J
    have HJ2 := Lib.hid J2
    clear hX9 hA9' y0 J J2
    go_wp2_with fail
  all_goals
    go_region_held3 (fun w' => w'.cell? ⟨c, 3, none⟩ = some (.pointer (some ⟨b, 0, none⟩)) ∧ w'.cell? ⟨w.heap.size, 1, none⟩ = some (i64 x.part)) (first | assumption | (refine ⟨?_, ?_⟩ <;> first | assumption | (simp [*, go_sem]; done))) (with_reducible refine hE.mono ?_; intro e w10 q0; unfold EndPost at q0; obtain ⟨rfl, hB10, hM10⟩ := q0; obtain ⟨j3, j1, j4, j0⟩ := HJ2.out _ hM10)
  all_goals
    obtain ⟨K1, K2, K3⟩ := HJ.out _ hM10
    obtain ⟨w11, hdel, hA11, hM11, hsz11⟩ := run_del (P := Tryz.prog) Tryz.underlying55 Tryz.underlying3 (show MapIs w10.drew a _ from K1.ats.same rfl) x.mv 0
    have L1 := Blk.mod (w := w10.drew) K1.blk hM11 (by simpa using n2)
    have L2 := Blk.mod (w := w10.drew) K2 hM11 (by have := hlts a (by simp); simp; omega)
    have L3 := Blk.mod (w := w10.drew) K3 hM11 (by simpa using hqa)
    have l4 := L1.read.1 4
    have l5 := L1.read.1 5
    have l6 := L1.read.1 6
    have lf := L1.read.2
    have l0 := L2.read.1 0
    have lq0 := L3.read.1 0
    have lq1 := L3.read.1 1
    simp only [coordCells, List.getElem?_cons_succ, List.getElem?_cons_zero] at l4 l5 l6 l0 lq0 lq1
    have HA11 := Lib.hid hA11
    have HM11 := Lib.hid hM11
    have HK1 := Lib.hid K1
    have HB10 := Lib.hid hB10
    have HM10 := Lib.hid hM10
    have HL1 := Lib.hid L1
    clear hA11 hM11 K1 K2 K3 hB10 hM10 L1 L2 L3 y03 y04 y05 y06 y1 z1 y2 z2 hE
    go_wp2_with fail
  all_goals
    go_region_held3 (fun w' => w'.cell? ⟨c, 4, none⟩ = some (.map (some a)) ∧ w'.cell? ⟨w.heap.size, 0, none⟩ = some (i64 x.mv)) (first | assumption | (refine ⟨?_, ?_⟩ <;> first | assumption | (simp [*, go_sem]; done))) (fail)
  all_goals
    obtain ⟨u1, u2, u3, u4⟩ := HCOM.out
    have hm11 : Mod [a] w10 w11 := HM11.out.undrew'
    have hm10 : Mod m.toList w9 w10 := HM10.out.undrew'
    have hMw : Mod (c :: b :: a :: ob :: m.toList) w w11 := (HMM.out.step hm10 (by intro k hk; left; simp at hk; simp [hk])).step hm11 (by simp)
    have hBk : BookIs w11 b m s.last ((delMv x.mv s.L).map Mv.ent) := by
      have := HB10.out.mod hm11 (by simpa using n4) (fun r hr => by simpa using (n7 r hr).2.2.1)
      rw [setAt_ent, delMv_ent HX.out HSS.out HPP.out] at this
      exact this
    have hAt : MapIs w11 a ((delMv x.mv s.L).map fun y => (y.mv, y.atv)) := by
      have h1 := HA11.out
      unfold St.ats at h1
      rw [delMv_key, delMv_setAt] at h1
      exact h1
    have hOw : IA w11 ob 0 s.own := HK1.out.own.mod hm11 (by simp; exact fun e => n6 e.symm)
    have hOb : ob < w11.heap.size := Nat.lt_of_lt_of_le HK1.out.obl hm11.size
    have HMw := Lib.hid hMw
    have HBk := Lib.hid hBk
    have HAt := Lib.hid hAt
    have HOw := Lib.hid hOw
    have hcl : c < w11.heap.size := HL1.out.lt
    clear hm11 hm10 hMw hBk hAt hOw HA11 HM11 HK1 HB10 HM10 hdel hsz11 HJ HJ2 HX9 HA9
    by_cases hst : x.st = 2
  all_goals first
  | (have hstb : (x.st == 2) = true := by simpa using hst
     have HST := Lib.hid hst
     clear hst
     go_wp2_with fail
     go_ret
     have hv : s.done x from_ = ({ s with L := delMv x.mv s.L, com := s.com + 1 }, d != x.dn) := by
       unfold St.done; rw [HD.out, if_pos HD3.out, if_pos HST.out]
     rw [hv]
     refine ⟨?_, _, ⟨ob, oc, b, a, m, rfl, ⟨?_, ?_, ?_, ?_, ?_, nodup_of n1 n2 n3 n4 n5 n6 n7⟩⟩, ?_, fun _ hk => .inl hk⟩
     · first | rfl | (have h2' : x.dn = d := h2; rw [h2']; rfl) | (have h2' : x.dn = d := h2; rw [h2']; simp)
     · exact HL1.out.set 5 _
     · exact IA.mod (S := [c]) HOw.out (by repeat (first | (with_reducible exact Mod.refl _ _) | (with_reducible assumption) | (with_reducible refine Mod.setCell ?_ (by simp) _) | (with_reducible refine Mod.alloc ?_ _) | (with_reducible refine Mod.drew ?_) | (with_reducible refine Mod.drewN ?_ _))) (by simp; exact fun e => n3 e.symm)
     · simpa only [World.size_setCell] using hOb
     · exact HBk.out.mod (S := [c]) (by repeat (first | (with_reducible exact Mod.refl _ _) | (with_reducible assumption) | (with_reducible refine Mod.setCell ?_ (by simp) _) | (with_reducible refine Mod.alloc ?_ _) | (with_reducible refine Mod.drew ?_) | (with_reducible refine Mod.drewN ?_ _))) (by simp; exact fun e => n1 e.symm) (fun r hr => by simpa using (n7 r hr).1)
     · exact HAt.out.mod (S := [c]) (by repeat (first | (with_reducible exact Mod.refl _ _) | (with_reducible assumption) | (with_reducible refine Mod.setCell ?_ (by simp) _) | (with_reducible refine Mod.alloc ?_ _) | (with_reducible refine Mod.drew ?_) | (with_reducible refine Mod.drewN ?_ _))) (by simp; exact fun e => n2 e.symm)
     · exact HMw.out.setCell (by simp) _)
  | (have hstb : (x.st == 2) = false := by simpa using hst
     have HST := Lib.hid hst
     clear hst
     go_wp2_with fail
     go_ret
     have hv : s.done x from_ = ({ s with L := delMv x.mv s.L, ab := s.ab + 1 }, d != x.dn) := by
       unfold St.done; rw [HD.out, if_pos HD3.out, if_neg HST.out]
     rw [hv]
     refine ⟨?_, _, ⟨ob, oc, b, a, m, rfl, ⟨?_, ?_, ?_, ?_, ?_, nodup_of n1 n2 n3 n4 n5 n6 n7⟩⟩, ?_, fun _ hk => .inl hk⟩
     · first | rfl | (have h2' : x.dn = d := h2; rw [h2']; rfl) | (have h2' : x.dn = d := h2; rw [h2']; simp)
     · exact HL1.out.set 6 _
     · exact IA.mod (S := [c]) HOw.out (by repeat (first | (with_reducible exact Mod.refl _ _) | (with_reducible assumption) | (with_reducible refine Mod.setCell ?_ (by simp) _) | (with_reducible refine Mod.alloc ?_ _) | (with_reducible refine Mod.drew ?_) | (with_reducible refine Mod.drewN ?_ _))) (by simp; exact fun e => n3 e.symm)
     · simpa only [World.size_setCell] using hOb
     · exact HBk.out.mod (S := [c]) (by repeat (first | (with_reducible exact Mod.refl _ _) | (with_reducible assumption) | (with_reducible refine Mod.setCell ?_ (by simp) _) | (with_reducible refine Mod.alloc ?_ _) | (with_reducible refine Mod.drew ?_) | (with_reducible refine Mod.drewN ?_ _))) (by simp; exact fun e => n1 e.symm) (fun r hr => by simpa using (n7 r hr).1)
     · exact HAt.out.mod (S := [c]) (by repeat (first | (with_reducible exact Mod.refl _ _) | (with_reducible assumption) | (with_reducible refine Mod.setCell ?_ (by simp) _) | (with_reducible refine Mod.alloc ?_ _) | (with_reducible refine Mod.drew ?_) | (with_reducible refine Mod.drewN ?_ _))) (by simp; exact fun e => n2 e.symm)
     · exact HMw.out.setCell (by simp) _)
end
end Go.Proofs.YtchmhkdnegngdaaGreat
