/- coord: Handle. -/
import Derived.Test.YtchmhkdnegngdaaGreatGCd
set_option linter.unusedVariables false
set_option linter.unusedSimpArgs false
namespace Go.Proofs.YtchmhkdnegngdaaGreat
open Go.RowKit

section
def St.byMv (s : St) (n : Int) : Option Mv := s.L.find? (fun x => x.mv == n)

theorem entBy_byMv (s : St) (n : Int) : entBy (s.L.map Mv.ent) n = (s.byMv n).map Mv.ent := by
  unfold entBy St.byMv
  rw [List.find?_map]
  rfl

def St.handle (s : St) (from_ kind mv part code : Int) : St × Bool :=
  match s.byMv mv with
  | none => (s, false)
  | some x =>
    if x.part ≠ part then (s, false)
    else if kind = 10 ∧ x.st = 1 ∧ from_ = x.dst then (s.ready x code, true)
    else if kind = 13 ∧ x.st ≠ 1 then s.done x from_
    else (s, false)

/-- a message's cells, so far as a coordinator reads them -/
structure MsgC (C : Array Value) (kind mv part code : Int) : Prop where
  c0 : C[0]? = some (.int .u8 kind)
  c1 : C[1]? = some (i64 mv)
  c2 : C[2]? = some (i64 part)
  c6 : C[6]? = some (i64 code)

theorem cready_calls (c : Nat) (F : List Nat) (s : St) (x : Mv) (code : Int) (w : World) (h : CR w c F s) (hx : x ∈ s.L) (hm : mayV s.ep s.n s.own x.part x.dst = 0) (hl : s.own.length ≤ 4096) :
    Calls Tryz.prog 48 #[.pointer (some ⟨c, 0, none⟩), .agg #[i64 x.mv, i64 x.part, i64 x.fr, i64 x.dst], i64 code] w (CPost w c F (s.ready x code) (.tuple #[])) := by
  unfold St.ready
  by_cases h1 : code = 1
  · subst h1
    rw [if_pos ⟨rfl, hm⟩]
    exact ready_ok c F s x w h hx hm hl
  · rw [if_neg (fun e => h1 e.1)]
    exact ready_no c F s x code w h hx h1

theorem CStep.pre {w W w' : World} {c : Nat} {F : List Nat} {s' : St} (e : Ext w W) (h : CStep W c F s' w') : CStep w c F s' w' := by
  obtain ⟨F', h1, h2, h3⟩ := h
  exact ⟨F', h1, (Mod.of_ext e).trans h2, fun k hk => (h3 k hk).imp id (fun h => Nat.le_trans e.size h)⟩

set_option maxRecDepth 100000 in
set_option maxHeartbeats 6400000 in
theorem handle_calls (c : Nat) (F : List Nat) (s : St) (from_ kind mv part code : Int) (C : Array Value) (w : World) (h : CR w c F s) (hC : MsgC C kind mv part code) (hL : s.L.length ≤ 12) (hs : s.L.Pairwise (fun x y => x.mv < y.mv))
    (hp : s.L.Pairwise (fun x y => x.part ≠ y.part)) (hcom : s.com < 1000000000 ∧ s.ab < 1000000000 ∧ 0 ≤ s.com ∧ 0 ≤ s.ab) (hown : s.own.length ≤ 4096) (hmay : ∀ x ∈ s.L, x.st = 1 → mayV s.ep s.n s.own x.part x.dst = 0) :
    Calls Tryz.prog 14 #[.pointer (some ⟨c, 0, none⟩), i64 from_, .agg C] w (CPost w c F (s.handle from_ kind mv part code).1 (.bool (s.handle from_ kind mv part code).2)) := by
  have e1 : Ext w (w.alloc (.cells C 40)) := by (refine Mod.to_ext (S := []) ?_ (by simp); repeat (first | (with_reducible exact Mod.refl _ _) | (with_reducible assumption) | (with_reducible refine Mod.alloc ?_ _) | (with_reducible refine Mod.drew ?_) | (with_reducible refine Mod.drewN ?_ _)))
  have hno := none_calls c F s _ (h.ext e1)
  have HH0 := Lib.hid h
  obtain ⟨ob, oc, b, a, m, rfl, h⟩ := h
  have hlt := h.blk.lt
  obtain ⟨E, hE⟩ : ∃ E : Ent, E = ((s.byMv mv).map Mv.ent).getD zeroEnt := ⟨_, rfl⟩
  obtain ⟨is, his⟩ : ∃ is : Bool, is = ((s.byMv mv).map Mv.ent).isSome := ⟨_, rfl⟩
  have R : ∀ W, Ext (w.alloc (.cells C 40)) W → Calls Tryz.prog 47 #[.pointer (some ⟨b, 0, none⟩), i64 mv] W (fun e w' => e = .returned (.tuple #[.agg #[i64 E.mv, i64 E.part, i64 E.fr, i64 E.dst], .bool is]) ∧ Ext W w') := by
    intro W hW
    have := by_calls b m s.last (s.L.map Mv.ent) mv W ((h.ext e1).ext hW).book (by simpa using hL) (by rw [List.pairwise_map]; exact hs)
    rw [entBy_byMv] at this
    unfold OfPost at this
    rw [← hE, ← his] at this
    exact this
  have hb40 : ∀ W, Ext (w.alloc (.cells C 40)) W → W.heap[w.heap.size]? = some (.cells C 40 (0, 0)) := fun W hW => (hW.block _ (by simp)).trans (heap_alloc_new _ _)
  have JM : ∀ W, Ext (w.alloc (.cells C 40)) W → W.cell? ⟨w.heap.size, 0, none⟩ = some (.int .u8 kind) ∧ W.cell? ⟨w.heap.size, 1, none⟩ = some (i64 mv) ∧ W.cell? ⟨w.heap.size, 2, none⟩ = some (i64 part) ∧ W.cell? ⟨w.heap.size, 6, none⟩ = some (i64 code) := by
    intro W hW
    have hb := hb40 W hW
    refine ⟨?_, ?_, ?_, ?_⟩ <;> rw [cell_of_row W _ _ C 40 (0, 0) hb]
    · exact hC.c0
    · exact hC.c1
    · exact hC.c2
    · exact hC.c6
  have J : ∀ W, Ext (w.alloc (.cells C 40)) W → W.cell? ⟨c, 3, none⟩ = some (.pointer (some ⟨b, 0, none⟩)) ∧ W.cell? ⟨w.heap.size, 1, none⟩ = some (i64 mv) ∧ c < W.heap.size ∧ w.heap.size < W.heap.size := by
    intro W hW
    have k0 := ((h.ext e1).ext hW).blk.read.1
    simp only [coordCells] at k0
    have hsz := hW.size
    simp only [World.size_alloc] at hsz
    exact ⟨k0 3, (JM W hW).2.1, by omega, by omega⟩
  have JB : ∀ W, Ext ((w.alloc (.cells C 40)).alloc (.cells #[i64 0, i64 0, i64 0, i64 0] 96)).drew W →
      (∀ o, W.cell? ⟨w.heap.size + 1, o, none⟩ = [i64 0, i64 0, i64 0, i64 0][o]?) ∧ (∀ o, W.frozen? ⟨w.heap.size + 1, o, none⟩ = false) ∧ w.heap.size + 1 < W.heap.size := by
    intro W hW
    have hb := (Blk.at (w.alloc (.cells C 40)) [i64 0, i64 0, i64 0, i64 0] 96 (w.heap.size + 1) (by simp)).drew.ext hW
    exact ⟨hb.read.1, hb.read.2, hb.lt⟩
  have EA := Lib.hid (show Ext (w.alloc (.cells C 40)) (w.alloc (.cells C 40)).drew by (refine Mod.to_ext (S := []) ?_ (by simp); repeat (first | (with_reducible exact Mod.refl _ _) | (with_reducible assumption) | (with_reducible refine Mod.alloc ?_ _) | (with_reducible refine Mod.drew ?_) | (with_reducible refine Mod.drewN ?_ _))))
  have EC := Lib.hid (show Ext (w.alloc (.cells C 40)) ((w.alloc (.cells C 40)).alloc (.cells #[i64 0, i64 0, i64 0, i64 0] 96)).drew by (refine Mod.to_ext (S := []) ?_ (by simp); repeat (first | (with_reducible exact Mod.refl _ _) | (with_reducible assumption) | (with_reducible refine Mod.alloc ?_ _) | (with_reducible refine Mod.drew ?_) | (with_reducible refine Mod.drewN ?_ _))))
  obtain ⟨j3, j1, jc, jn⟩ := J _ (show Ext _ (w.alloc (.cells C 40)) from Below.refl _ _)
  have HR := Lib.hid R
  have HJ := Lib.hid J
  have HJM := Lib.hid JM
  have HJB := Lib.hid JB
  have HH := Lib.hid h
  have HE1 := Lib.hid e1
  have HE := Lib.hid hE
  have HIS := Lib.hid his
  have HSS := Lib.hid hs
  have HPP := Lib.hid hp
  have HCOM := Lib.hid hcom
  have HMAY := Lib.hid hmay
  clear R J JM JB h e1 hE his hs hb40 hC hp hcom hmay
  go_enter Tryz.func14, Tryz.ntmps14
  go_wp2_with fail
  refine hno.mono ?_
  rintro e w1 ⟨rfl, rfl⟩
  clear hno
  go_wp2_with fail
  go_region_held3 (fun w' => w'.cell? ⟨c, 3, none⟩ = some (.pointer (some ⟨b, 0, none⟩)) ∧ w'.cell? ⟨w.heap.size, 1, none⟩ = some (i64 mv)) (first | assumption | (refine ⟨?_, ?_⟩ <;> first | assumption | go_keep | (simp [*, go_sem]; done)))
    (first | (with_reducible refine (HR.out _ EA.out).mono ?_; intro e w2 q0; obtain ⟨rfl, hE⟩ := q0; have hEW := Lib.hid (Ext.trans EA.out hE); obtain ⟨j3, j1, jc, jn⟩ := HJ.out _ hEW.out) | (with_reducible refine (HR.out _ EC.out).mono ?_; intro e w2 q0; obtain ⟨rfl, hE⟩ := q0; obtain ⟨z1, z2, z3⟩ := HJB.out _ hE; have hEW := Lib.hid (Ext.trans EC.out hE); obtain ⟨j3, j1, jc, jn⟩ := HJ.out _ hEW.out))
  · have hq : Blk (w2.alloc (.cells #[i64 E.mv, i64 E.part, i64 E.fr, i64 E.dst] 96)) w2.heap.size [i64 E.mv, i64 E.part, i64 E.fr, i64 E.dst] 96 := Blk.new _ _ _
    have e3 : Ext w2 (w2.alloc (.cells #[i64 E.mv, i64 E.part, i64 E.fr, i64 E.dst] 96)) := by (refine Mod.to_ext (S := []) ?_ (by simp); repeat (first | (with_reducible exact Mod.refl _ _) | (with_reducible assumption) | (with_reducible refine Mod.alloc ?_ _) | (with_reducible refine Mod.drew ?_) | (with_reducible refine Mod.drewN ?_ _)))
    have hEX : Ext (w.alloc (.cells C 40)) (w2.alloc (.cells #[i64 E.mv, i64 E.part, i64 E.fr, i64 E.dst] 96)) := hEW.out.trans e3
    clear hE hEW e3 j3 j1 jc jn
    revert hq hEX
    generalize w2.heap.size = q
    generalize w2.alloc (.cells #[i64 E.mv, i64 E.part, i64 E.fr, i64 E.dst] 96) = W
    intro hq hEX
    have hCW := (HH.out.ext HE1.out).ext hEX
    have hcl := hCW.blk.lt
    obtain ⟨m0, m1, m2, m6⟩ := HJM.out _ hEX
    obtain ⟨q0, p0⟩ := hq.read
    have HCW := Lib.hid hCW
    have HEX := Lib.hid (HE1.out.trans hEX)
    have HQ := Lib.hid hq
    clear hCW hEX hq
    cases hx : s.byMv mv with
    | none =>
      have hi : is = false := by rw [HIS.out, hx]; rfl
      subst hi
      have HX := Lib.hid hx
      clear hx
      go_wp2_with fail
      go_ret
      have hv : s.handle from_ kind mv part code = (s, false) := by unfold St.handle; rw [HX.out]
      rw [hv]
      exact ⟨rfl, CStep.same HH0.out HEX.out⟩
    | some x =>
      have hi : is = true := by rw [HIS.out, hx]; rfl
      have hE2 : E = x.ent := by rw [HE.out, hx]; rfl
      subst hi hE2
      have HX := Lib.hid hx
      have HXM := Lib.hid (show x ∈ s.L from List.mem_of_find?_eq_some hx)
      clear hx HE HIS
      simp only [Mv.ent] at q0 ⊢
      have HQ2 := Lib.hid (show Blk W q [i64 x.mv, i64 x.part, i64 x.fr, i64 x.dst] 96 from HQ.out)
      clear HQ
      by_cases hpt : x.part = part
      case neg =>
        have hptb : (x.part != part) = true := by simpa using hpt
        have hv : s.handle from_ kind mv part code = (s, false) := by unfold St.handle; rw [HX.out]; simp only; rw [if_pos hpt]
        have HV := Lib.hid hv
        clear hpt hv
        go_wp2_with fail
        go_ret
        rw [HV.out]
        exact ⟨rfl, CStep.same HH0.out HEX.out⟩
      case pos =>
        have hptb : (x.part != part) = false := by simpa using hpt
        have HPT := Lib.hid hpt
        clear hpt
        have hlk := run_look_some (P := Tryz.prog) Tryz.underlying55 Tryz.underlying3 (show MapIs W.drew a s.ats from HCW.out.ats.same rfl) x.mv false (atKey_mem HSS.out HXM.out)
        unfold Mv.atv at hlk
        have hfd := field94
        have r4 := HCW.out.blk.read.1 4
        simp only [coordCells, List.getElem?_cons_succ, List.getElem?_cons_zero] at r4
        go_wp2_with fail
        go_region_held3 (fun w' => w'.cell? ⟨c, 4, none⟩ = some (.map (some a)) ∧ w'.cell? ⟨q, 0, none⟩ = some (i64 x.mv)) (first | assumption | (refine ⟨?_, ?_⟩ <;> first | assumption | (simp [*, go_sem]; done))) (fail)
        have e9 : Ext W W.drew := by (refine Mod.to_ext (S := []) ?_ (by simp); repeat (first | (with_reducible exact Mod.refl _ _) | (with_reducible assumption) | (with_reducible refine Mod.alloc ?_ _) | (with_reducible refine Mod.drew ?_) | (with_reducible refine Mod.drewN ?_ _)))
        have HC9 := Lib.hid (HCW.out.ext e9)
        have HE9 := Lib.hid (HEX.out.trans e9)
        have hq9 := HQ2.out.drew
        have g0 : W.drew.cell? ⟨w.heap.size, 0, none⟩ = some (.int .u8 kind) := m0
        have g6 : W.drew.cell? ⟨w.heap.size, 6, none⟩ = some (i64 code) := m6
        obtain ⟨y0, z0⟩ := hq9.read
        have hv : s.handle from_ kind mv part code = (if kind = 10 ∧ x.st = 1 ∧ from_ = x.dst then (s.ready x code, true) else if kind = 13 ∧ x.st ≠ 1 then s.done x from_ else (s, false)) := by
          unfold St.handle; rw [HX.out]; simp only; rw [if_neg (by simpa using HPT.out)]
        have HV := Lib.hid hv
        clear hv hlk hfd r4 e9 hq9 m0 m1 m2 m6 q0 p0 HQ2 HCW HEX
        revert HC9 HE9 g0 g6 y0 z0
        generalize W.drew = W9
        intro HC9 HE9 g0 g6 y0 z0
        by_cases k10 : kind = 10
        · have k10b : (kind == 10) = true := by simpa using k10
          have k13b : (kind == 13) = false := by simp; omega
          have K10 := Lib.hid k10
          clear k10
          by_cases st1 : x.st = 1
          · have st1b : (x.st == 1) = true := by simpa using st1
            have ST1 := Lib.hid st1
            clear st1
            by_cases fd : from_ = x.dst
            · have fdb : (from_ == x.dst) = true := by simpa using fd
              have FD := Lib.hid fd
              clear fd
              have R9 := cready_calls c _ s x code W9 ⟨ob, oc, b, a, m, rfl, HC9.out⟩ HXM.out (HMAY.out x HXM.out ST1.out) hown
              go_wp2_with fail
              refine R9.mono ?_
              intro e w10 q1
              unfold CPost at q1
              obtain ⟨rfl, hst⟩ := q1
              have HST := Lib.hid hst
              clear hst R9
              go_wp2_with fail
              go_ret
              rw [HV.out, if_pos ⟨K10.out, ST1.out, FD.out⟩]
              exact ⟨rfl, HST.out.pre HE9.out⟩
            · have fdb : (from_ == x.dst) = false := by simpa using fd
              have FD := Lib.hid fd
              clear fd
              go_wp2_with fail
              go_ret
              rw [HV.out, if_neg (fun e => FD.out e.2.2), if_neg (fun e => by have := K10.out; omega)]
              exact ⟨rfl, CStep.same HH0.out HE9.out⟩
          · have st1b : (x.st == 1) = false := by simpa using st1
            have ST1 := Lib.hid st1
            clear st1
            go_wp2_with fail
            go_ret
            rw [HV.out, if_neg (fun e => ST1.out e.2.1), if_neg (fun e => by have := K10.out; omega)]
            exact ⟨rfl, CStep.same HH0.out HE9.out⟩
        · have k10b : (kind == 10) = false := by simpa using k10
          have K10 := Lib.hid k10
          clear k10
          by_cases k13 : kind = 13
          · have k13b : (kind == 13) = true := by simpa using k13
            have K13 := Lib.hid k13
            clear k13
            by_cases st1 : x.st = 1
            · have st1b : (x.st == 1) = true := by simpa using st1
              have ST1 := Lib.hid st1
              clear st1
              go_wp2_with fail
              go_ret
              rw [HV.out, if_neg (fun e => K10.out e.1), if_neg (fun e => e.2 ST1.out)]
              exact ⟨rfl, CStep.same HH0.out HE9.out⟩
            · have st1b : (x.st == 1) = false := by simpa using st1
              have ST1 := Lib.hid st1
              clear st1
              have R9 := cdone_calls c _ s x from_ W9 ⟨ob, oc, b, a, m, rfl, HC9.out⟩ HXM.out HSS.out HPP.out HCOM.out
              go_wp2_with fail
              refine R9.mono ?_
              intro e w10 q1
              unfold CPost at q1
              obtain ⟨rfl, hst⟩ := q1
              have HST := Lib.hid hst
              clear hst R9
              go_wp2_with fail
              go_ret
              rw [HV.out, if_neg (fun e => K10.out e.1), if_pos ⟨K13.out, ST1.out⟩]
              exact ⟨rfl, HST.out.pre HE9.out⟩
          · have k13b : (kind == 13) = false := by simpa using k13
            have K13 := Lib.hid k13
            clear k13
            go_wp2_with fail
            go_ret
            rw [HV.out, if_neg (fun e => K10.out e.1), if_neg (fun e => K13.out e.1)]
            exact ⟨rfl, CStep.same HH0.out HE9.out⟩
  · have hq : Blk ((((w2.setCell ⟨w.heap.size + 1, 0, none⟩ (i64 E.mv)).setCell ⟨w.heap.size + 1, 1, none⟩ (i64 E.part)).setCell ⟨w.heap.size + 1, 2, none⟩ (i64 E.fr)).setCell ⟨w.heap.size + 1, 3, none⟩ (i64 E.dst)) (w.heap.size + 1) [i64 E.mv, i64 E.part, i64 E.fr, i64 E.dst] 96 :=
      ((((((Blk.at (w.alloc (.cells C 40)) [i64 0, i64 0, i64 0, i64 0] 96 (w.heap.size + 1) (by simp)).drew.ext hE).set 0 _).set 1 _).set 2 _).set 3 _)
    have hEX : Ext (w.alloc (.cells C 40)) ((((w2.setCell ⟨w.heap.size + 1, 0, none⟩ (i64 E.mv)).setCell ⟨w.heap.size + 1, 1, none⟩ (i64 E.part)).setCell ⟨w.heap.size + 1, 2, none⟩ (i64 E.fr)).setCell ⟨w.heap.size + 1, 3, none⟩ (i64 E.dst)) := by
      have M0 : Mod [] (w.alloc (.cells C 40)) w2 := Mod.of_ext hEW.out
      exact ((((M0.setCell (by right; simp) _).setCell (by right; simp) _).setCell (by right; simp) _).setCell (by right; simp) _).to_ext (by simp)
    clear hE hEW z1 z2 z3 j3 j1 jc jn
    revert hq hEX
    generalize (((w2.setCell ⟨w.heap.size + 1, 0, none⟩ (i64 E.mv)).setCell ⟨w.heap.size + 1, 1, none⟩ (i64 E.part)).setCell ⟨w.heap.size + 1, 2, none⟩ (i64 E.fr)).setCell ⟨w.heap.size + 1, 3, none⟩ (i64 E.dst) = W
    generalize w.heap.size + 1 = q
    intro hq hEX
    have hCW := (HH.out.ext HE1.out).ext hEX
    have hcl := hCW.blk.lt
    obtain ⟨m0, m1, m2, m6⟩ := HJM.out _ hEX
    obtain ⟨q0, p0⟩ := hq.read
    have HCW := Lib.hid hCW
    have HEX := Lib.hid (HE1.out.trans hEX)
    have HQ := Lib.hid hq
    clear hCW hEX hq
    cases hx : s.byMv mv with
    | none =>
      have hi : is = false := by rw [HIS.out, hx]; rfl
      subst hi
      have HX := Lib.hid hx
      clear hx
      go_wp2_with fail
      go_ret
      have hv : s.handle from_ kind mv part code = (s, false) := by unfold St.handle; rw [HX.out]
      rw [hv]
      exact ⟨rfl, CStep.same HH0.out HEX.out⟩
    | some x =>
      have hi : is = true := by rw [HIS.out, hx]; rfl
      have hE2 : E = x.ent := by rw [HE.out, hx]; rfl
      subst hi hE2
      have HX := Lib.hid hx
      have HXM := Lib.hid (show x ∈ s.L from List.mem_of_find?_eq_some hx)
      clear hx HE HIS
      simp only [Mv.ent] at q0 ⊢
      have HQ2 := Lib.hid (show Blk W q [i64 x.mv, i64 x.part, i64 x.fr, i64 x.dst] 96 from HQ.out)
      clear HQ
      by_cases hpt : x.part = part
      case neg =>
        have hptb : (x.part != part) = true := by simpa using hpt
        have hv : s.handle from_ kind mv part code = (s, false) := by unfold St.handle; rw [HX.out]; simp only; rw [if_pos hpt]
        have HV := Lib.hid hv
        clear hpt hv
        go_wp2_with fail
        go_ret
        rw [HV.out]
        exact ⟨rfl, CStep.same HH0.out HEX.out⟩
      case pos =>
        have hptb : (x.part != part) = false := by simpa using hpt
        have HPT := Lib.hid hpt
        clear hpt
        have hlk := run_look_some (P := Tryz.prog) Tryz.underlying55 Tryz.underlying3 (show MapIs W.drew a s.ats from HCW.out.ats.same rfl) x.mv false (atKey_mem HSS.out HXM.out)
        unfold Mv.atv at hlk
        have hfd := field94
        have r4 := HCW.out.blk.read.1 4
        simp only [coordCells, List.getElem?_cons_succ, List.getElem?_cons_zero] at r4
        go_wp2_with fail
        go_region_held3 (fun w' => w'.cell? ⟨c, 4, none⟩ = some (.map (some a)) ∧ w'.cell? ⟨q, 0, none⟩ = some (i64 x.mv)) (first | assumption | (refine ⟨?_, ?_⟩ <;> first | assumption | (simp [*, go_sem]; done))) (fail)
        have e9 : Ext W W.drew := by (refine Mod.to_ext (S := []) ?_ (by simp); repeat (first | (with_reducible exact Mod.refl _ _) | (with_reducible assumption) | (with_reducible refine Mod.alloc ?_ _) | (with_reducible refine Mod.drew ?_) | (with_reducible refine Mod.drewN ?_ _)))
        have HC9 := Lib.hid (HCW.out.ext e9)
        have HE9 := Lib.hid (HEX.out.trans e9)
        have hq9 := HQ2.out.drew
        have g0 : W.drew.cell? ⟨w.heap.size, 0, none⟩ = some (.int .u8 kind) := m0
        have g6 : W.drew.cell? ⟨w.heap.size, 6, none⟩ = some (i64 code) := m6
        obtain ⟨y0, z0⟩ := hq9.read
        have hv : s.handle from_ kind mv part code = (if kind = 10 ∧ x.st = 1 ∧ from_ = x.dst then (s.ready x code, true) else if kind = 13 ∧ x.st ≠ 1 then s.done x from_ else (s, false)) := by
          unfold St.handle; rw [HX.out]; simp only; rw [if_neg (by simpa using HPT.out)]
        have HV := Lib.hid hv
        clear hv hlk hfd r4 e9 hq9 m0 m1 m2 m6 q0 p0 HQ2 HCW HEX
        revert HC9 HE9 g0 g6 y0 z0
        generalize W.drew = W9
        intro HC9 HE9 g0 g6 y0 z0
        by_cases k10 : kind = 10
        · have k10b : (kind == 10) = true := by simpa using k10
          have k13b : (kind == 13) = false := by simp; omega
          have K10 := Lib.hid k10
          clear k10
          by_cases st1 : x.st = 1
          · have st1b : (x.st == 1) = true := by simpa using st1
            have ST1 := Lib.hid st1
            clear st1
            by_cases fd : from_ = x.dst
            · have fdb : (from_ == x.dst) = true := by simpa using fd
              have FD := Lib.hid fd
              clear fd
              have R9 := cready_calls c _ s x code W9 ⟨ob, oc, b, a, m, rfl, HC9.out⟩ HXM.out (HMAY.out x HXM.out ST1.out) hown
              go_wp2_with fail
              refine R9.mono ?_
              intro e w10 q1
              unfold CPost at q1
              obtain ⟨rfl, hst⟩ := q1
              have HST := Lib.hid hst
              clear hst R9
              go_wp2_with fail
              go_ret
              rw [HV.out, if_pos ⟨K10.out, ST1.out, FD.out⟩]
              exact ⟨rfl, HST.out.pre HE9.out⟩
            · have fdb : (from_ == x.dst) = false := by simpa using fd
              have FD := Lib.hid fd
              clear fd
              go_wp2_with fail
              go_ret
              rw [HV.out, if_neg (fun e => FD.out e.2.2), if_neg (fun e => by have := K10.out; omega)]
              exact ⟨rfl, CStep.same HH0.out HE9.out⟩
          · have st1b : (x.st == 1) = false := by simpa using st1
            have ST1 := Lib.hid st1
            clear st1
            go_wp2_with fail
            go_ret
            rw [HV.out, if_neg (fun e => ST1.out e.2.1), if_neg (fun e => by have := K10.out; omega)]
            exact ⟨rfl, CStep.same HH0.out HE9.out⟩
        · have k10b : (kind == 10) = false := by simpa using k10
          have K10 := Lib.hid k10
          clear k10
          by_cases k13 : kind = 13
          · have k13b : (kind == 13) = true := by simpa using k13
            have K13 := Lib.hid k13
            clear k13
            by_cases st1 : x.st = 1
            · have st1b : (x.st == 1) = true := by simpa using st1
              have ST1 := Lib.hid st1
              clear st1
              go_wp2_with fail
              go_ret
              rw [HV.out, if_neg (fun e => K10.out e.1), if_neg (fun e => e.2 ST1.out)]
              exact ⟨rfl, CStep.same HH0.out HE9.out⟩
            · have st1b : (x.st == 1) = false := by simpa using st1
              have ST1 := Lib.hid st1
              clear st1
              have R9 := cdone_calls c _ s x from_ W9 ⟨ob, oc, b, a, m, rfl, HC9.out⟩ HXM.out HSS.out HPP.out HCOM.out
              go_wp2_with fail
              refine R9.mono ?_
              intro e w10 q1
              unfold CPost at q1
              obtain ⟨rfl, hst⟩ := q1
              have HST := Lib.hid hst
              clear hst R9
              go_wp2_with fail
              go_ret
              rw [HV.out, if_neg (fun e => K10.out e.1), if_pos ⟨K13.out, ST1.out⟩]
              exact ⟨rfl, HST.out.pre HE9.out⟩
          · have k13b : (kind == 13) = false := by simpa using k13
            have K13 := Lib.hid k13
            clear k13
            go_wp2_with fail
            go_ret
            rw [HV.out, if_neg (fun e => K10.out e.1), if_neg (fun e => K13.out e.1)]
            exact ⟨rfl, CStep.same HH0.out HE9.out⟩
end
end Go.Proofs.YtchmhkdnegngdaaGreat
