/- coord: ready. coord: ready with another code. -/
import Derived.Test.YtchmhkdnegngdaaGreatGCo
import Derived.Deep.DrawnRows
set_option linter.unusedVariables false
set_option linter.unusedSimpArgs false
namespace Go.Proofs.YtchmhkdnegngdaaGreat
open Go.RowKit

section
def St.ready (s : St) (x : Mv) (code : Int) : St :=
  if code = 1 ∧ mayV s.ep s.n s.own x.part x.dst = 0 then { s with ep := s.ep + 1, own := s.own.set x.part.toNat x.dst, L := setAt x.mv 2 0 s.L }
  else { s with L := setAt x.mv 3 0 s.L }

set_option maxRecDepth 100000 in
set_option maxHeartbeats 1600000 in
theorem ready_ok (c : Nat) (F : List Nat) (s : St) (x : Mv) (w : World) (h : CR w c F s) (hx : x ∈ s.L) (hm : mayV s.ep s.n s.own x.part x.dst = 0) (hl : s.own.length ≤ 4096) :
    Calls Tryz.prog 48 #[.pointer (some ⟨c, 0, none⟩), .agg #[i64 x.mv, i64 x.part, i64 x.fr, i64 x.dst], i64 1] w (CPost w c F { s with ep := s.ep + 1, own := s.own.set x.part.toNat x.dst, L := setAt x.mv 2 0 s.L } (.tuple #[])) := by
  obtain ⟨ob, oc, b, a, m, rfl, h⟩ := h
  have hlt := h.blk.lt
  have e1 : Ext w (w.alloc (.cells #[i64 x.mv, i64 x.part, i64 x.fr, i64 x.dst] 96)) := by (refine Mod.to_ext (S := []) ?_ (by simp); repeat (first | (with_reducible exact Mod.refl _ _) | (with_reducible assumption) | (with_reducible refine Mod.alloc ?_ _) | (with_reducible refine Mod.drew ?_) | (with_reducible refine Mod.drewN ?_ _)))
  have k0 := (h.ext e1).blk.read.1
  have kx := (Blk.new w [i64 x.mv, i64 x.part, i64 x.fr, i64 x.dst] 96).read.1
  have J : ∀ W, Ext (w.alloc (.cells #[i64 x.mv, i64 x.part, i64 x.fr, i64 x.dst] 96)) W →
      W.cell? ⟨c, 0, none⟩ = some (i64 s.ep) ∧ W.cell? ⟨c, 1, none⟩ = some (i64 s.n) ∧ W.cell? ⟨c, 2, none⟩ = some (.slice (some ⟨ob, 0, none⟩) s.own.length oc) ∧
      W.cell? ⟨w.heap.size, 1, none⟩ = some (i64 x.part) ∧ W.cell? ⟨w.heap.size, 3, none⟩ = some (i64 x.dst) ∧ c < W.heap.size ∧ w.heap.size < W.heap.size := by
    intro W hW
    have hsz := hW.size
    simp only [World.size_alloc] at hsz
    have k0 := ((h.ext e1).ext hW).blk.read.1
    have kx := ((Blk.new w [i64 x.mv, i64 x.part, i64 x.fr, i64 x.dst] 96).ext hW).read.1
    simp only [coordCells] at k0
    exact ⟨k0 0, k0 1, k0 2, kx 1, kx 3, by omega, by omega⟩
  have R : ∀ W, Ext (w.alloc (.cells #[i64 x.mv, i64 x.part, i64 x.fr, i64 x.dst] 96)) W → Calls Tryz.prog 65 #[.agg #[i64 s.ep, i64 s.n, .slice (some ⟨ob, 0, none⟩) s.own.length oc], i64 x.part, i64 x.dst] W (MovedTable s.ep s.n (s.own.set x.part.toNat x.dst) W) := by
    intro W hW
    exact tmove_ok s.ep s.n ob 0 oc s.own x.part x.dst W hl ((h.own.ext e1).ext hW) hm
  have JB : ∀ W, Ext ((w.alloc (.cells #[i64 x.mv, i64 x.part, i64 x.fr, i64 x.dst] 96)).alloc (.cells #[i64 0, i64 0, .slice none 0 0] 28)).drew W →
      (∀ o, W.cell? ⟨w.heap.size + 1, o, none⟩ = [i64 0, i64 0, .slice none 0 0][o]?) ∧ (∀ o, W.frozen? ⟨w.heap.size + 1, o, none⟩ = false) ∧ w.heap.size + 1 < W.heap.size := by
    intro W hW
    have hb := (Blk.at (w.alloc (.cells #[i64 x.mv, i64 x.part, i64 x.fr, i64 x.dst] 96)) [i64 0, i64 0, .slice none 0 0] 28 (w.heap.size + 1) (by simp)).drew.ext hW
    exact ⟨hb.read.1, hb.read.2, hb.lt⟩
  have HJB := Lib.hid JB
  clear JB
  have HJ := Lib.hid J
  have HR := Lib.hid R
  have HH := Lib.hid h
  have HE1 := Lib.hid e1
  obtain ⟨j0, j1, j2, j3, j4, j5, j6⟩ := J _ (show Ext _ (w.alloc (.cells #[i64 x.mv, i64 x.part, i64 x.fr, i64 x.dst] 96)) from Below.refl _ _)
  have hcn : ¬ c = w.heap.size := by omega
  have EA := Lib.hid (show Ext (w.alloc (.cells #[i64 x.mv, i64 x.part, i64 x.fr, i64 x.dst] 96)) (w.alloc (.cells #[i64 x.mv, i64 x.part, i64 x.fr, i64 x.dst] 96)).drew by (refine Mod.to_ext (S := []) ?_ (by simp); repeat (first | (with_reducible exact Mod.refl _ _) | (with_reducible assumption) | (with_reducible refine Mod.alloc ?_ _) | (with_reducible refine Mod.drew ?_) | (with_reducible refine Mod.drewN ?_ _))))
  have EB := Lib.hid (show Ext (w.alloc (.cells #[i64 x.mv, i64 x.part, i64 x.fr, i64 x.dst] 96)) ((w.alloc (.cells #[i64 x.mv, i64 x.part, i64 x.fr, i64 x.dst] 96)).drew.alloc (.cells #[i64 0, i64 0, .slice none 0 0] 28)) by (refine Mod.to_ext (S := []) ?_ (by simp); repeat (first | (with_reducible exact Mod.refl _ _) | (with_reducible assumption) | (with_reducible refine Mod.alloc ?_ _) | (with_reducible refine Mod.drew ?_) | (with_reducible refine Mod.drewN ?_ _))))
  have EC := Lib.hid (show Ext (w.alloc (.cells #[i64 x.mv, i64 x.part, i64 x.fr, i64 x.dst] 96)) ((w.alloc (.cells #[i64 x.mv, i64 x.part, i64 x.fr, i64 x.dst] 96)).alloc (.cells #[i64 0, i64 0, .slice none 0 0] 28)).drew by (refine Mod.to_ext (S := []) ?_ (by simp); repeat (first | (with_reducible exact Mod.refl _ _) | (with_reducible assumption) | (with_reducible refine Mod.alloc ?_ _) | (with_reducible refine Mod.drew ?_) | (with_reducible refine Mod.drewN ?_ _))))
  clear J R h k0 kx e1
  go_enter Tryz.func48, Tryz.ntmps48
  go_wp2_with fail
  go_region_held3 (fun w' => w'.cell? ⟨c, 0, none⟩ = some (i64 s.ep) ∧ w'.cell? ⟨c, 1, none⟩ = some (i64 s.n) ∧ w'.cell? ⟨c, 2, none⟩ = some (.slice (some ⟨ob, 0, none⟩) s.own.length oc) ∧ w'.cell? ⟨w.heap.size, 1, none⟩ = some (i64 x.part) ∧ w'.cell? ⟨w.heap.size, 3, none⟩ = some (i64 x.dst)) (first | assumption | (refine ⟨?_, ?_, ?_, ?_, ?_⟩ <;> first | assumption | go_keep | (simp [*, go_sem]; done)))
    (first | (with_reducible refine (HR.out _ EA.out).mono ?_; intro e w2 q0; unfold MovedTable at q0; obtain ⟨g, gc, rfl, hg1, hg2, hI, hE⟩ := q0; have hEW := Lib.hid (Ext.trans EA.out hE); obtain ⟨j0, j1, j2, j3, j4, j5, j6⟩ := HJ.out _ hEW.out) | (with_reducible refine (HR.out _ EC.out).mono ?_; intro e w2 q0; unfold MovedTable at q0; obtain ⟨g, gc, rfl, hg1, hg2, hI, hE⟩ := q0; obtain ⟨z1, z2, z3⟩ := HJB.out _ hE; have hEW := Lib.hid (Ext.trans EC.out hE); obtain ⟨j0, j1, j2, j3, j4, j5, j6⟩ := HJ.out _ hEW.out))
  · have hq : Blk (w2.alloc (.cells #[i64 (s.ep + 1), i64 s.n, .slice (some ⟨g, 0, none⟩) s.own.length gc] 28)) w2.heap.size [i64 (s.ep + 1), i64 s.n, .slice (some ⟨g, 0, none⟩) s.own.length gc] 28 := Blk.new _ _ _
    have e3 : Ext w2 (w2.alloc (.cells #[i64 (s.ep + 1), i64 s.n, .slice (some ⟨g, 0, none⟩) s.own.length gc] 28)) := by (refine Mod.to_ext (S := []) ?_ (by simp); repeat (first | (with_reducible exact Mod.refl _ _) | (with_reducible assumption) | (with_reducible refine Mod.alloc ?_ _) | (with_reducible refine Mod.drew ?_) | (with_reducible refine Mod.drewN ?_ _)))
    have hEX : Ext (w.alloc (.cells #[i64 x.mv, i64 x.part, i64 x.fr, i64 x.dst] 96)) (w2.alloc (.cells #[i64 (s.ep + 1), i64 s.n, .slice (some ⟨g, 0, none⟩) s.own.length gc] 28)) := hEW.out.trans e3
    have hIW := hI.ext e3
    have hgW : g < (w2.alloc (.cells #[i64 (s.ep + 1), i64 s.n, .slice (some ⟨g, 0, none⟩) s.own.length gc] 28)).heap.size := by simp; omega
    have hgw : w.heap.size + 1 ≤ g := by simpa using hg1
    have hqw : w.heap.size + 1 ≤ w2.heap.size := by have := hEW.out.size; simpa using this
    clear hE hEW hI e3 hg1 hg2 j0 j1 j2 j3 j4 j5 j6
    revert hq hEX hIW hgW hgw hqw
    generalize w2.heap.size = q
    generalize w2.alloc (.cells #[i64 (s.ep + 1), i64 s.n, .slice (some ⟨g, 0, none⟩) s.own.length gc] 28) = W
    intro hq hEX hIW hgW hgw hqw
    obtain ⟨n1, n2, n3, n4, n5, n6, n7⟩ := mem_nodup HH.out.nd
    have hC := (HH.out.ext HE1.out).ext hEX
    have hxB := ((Blk.new w [i64 x.mv, i64 x.part, i64 x.fr, i64 x.dst] 96)).ext hEX
    obtain ⟨q0, p0⟩ := hq.read
    obtain ⟨c0, f0⟩ := hC.blk.read
    simp only [coordCells] at c0
    have hncq : ¬ c = q := by omega
    have HC := Lib.hid hC
    have HXB := Lib.hid hxB
    have HIW := Lib.hid hIW
    have HEX := Lib.hid hEX
    clear hq hC hxB hIW hEX
    go_wp2_with fail
    have hlts := HH.out.lt
    have hCA : CRAt (((W.setCell ⟨c, 0, none⟩ (i64 (s.ep + 1))).setCell ⟨c, 1, none⟩ (i64 s.n)).setCell ⟨c, 2, none⟩ (.slice (some ⟨g, 0, none⟩) s.own.length gc)) c { s with ep := s.ep + 1, own := s.own.set x.part.toNat x.dst } g gc b a m := by
      refine ⟨?_, ?_, by simpa only [World.size_setCell] using hgW, ?_, ?_, ?_⟩
      · have hb := ((HC.out.blk.set 0 (i64 (s.ep + 1))).set 1 (i64 s.n)).set 2 (.slice (some ⟨g, 0, none⟩) s.own.length gc)
        simpa [coordCells, List.length_set] using hb
      · exact IA.mod (S := [c]) HIW.out (by repeat (first | (with_reducible exact Mod.refl _ _) | (with_reducible assumption) | (with_reducible refine Mod.setCell ?_ (by simp) _) | (with_reducible refine Mod.alloc ?_ _) | (with_reducible refine Mod.drew ?_) | (with_reducible refine Mod.drewN ?_ _))) (by simp; omega)
      · exact HC.out.book.mod (S := [c]) (by repeat (first | (with_reducible exact Mod.refl _ _) | (with_reducible assumption) | (with_reducible refine Mod.setCell ?_ (by simp) _) | (with_reducible refine Mod.alloc ?_ _) | (with_reducible refine Mod.drew ?_) | (with_reducible refine Mod.drewN ?_ _))) (by simp; omega) (by intro r hr; simp; exact (n7 r hr).1)
      · exact HC.out.ats.mod (S := [c]) (by repeat (first | (with_reducible exact Mod.refl _ _) | (with_reducible assumption) | (with_reducible refine Mod.setCell ?_ (by simp) _) | (with_reducible refine Mod.alloc ?_ _) | (with_reducible refine Mod.drew ?_) | (with_reducible refine Mod.drewN ?_ _))) (by simp; omega)
      · have hb := hlts b (by simp)
        have ha := hlts a (by simp)
        exact nodup_of n1 n2 (by omega) n4 (by omega) (by omega) (fun r hr => by have := n7 r hr; have := hlts r (by simp [hr]); omega)
    have hXB2 : Blk (((W.setCell ⟨c, 0, none⟩ (i64 (s.ep + 1))).setCell ⟨c, 1, none⟩ (i64 s.n)).setCell ⟨c, 2, none⟩ (.slice (some ⟨g, 0, none⟩) s.own.length gc)) w.heap.size [i64 x.mv, i64 x.part, i64 x.fr, i64 x.dst] 96 := HXB.out.mod (S := [c]) (by repeat (first | (with_reducible exact Mod.refl _ _) | (with_reducible assumption) | (with_reducible refine Mod.setCell ?_ (by simp) _) | (with_reducible refine Mod.alloc ?_ _) | (with_reducible refine Mod.drew ?_) | (with_reducible refine Mod.drewN ?_ _))) (by simp; omega)
    have hMW : Mod [c] w (((W.setCell ⟨c, 0, none⟩ (i64 (s.ep + 1))).setCell ⟨c, 1, none⟩ (i64 s.n)).setCell ⟨c, 2, none⟩ (.slice (some ⟨g, 0, none⟩) s.own.length gc)) := by
      have M0 : Mod [c] w W := Mod.of_ext (HE1.out.trans HEX.out)
      repeat (first | (with_reducible exact Mod.refl _ _) | (with_reducible assumption) | (with_reducible refine Mod.setCell ?_ (by simp) _) | (with_reducible refine Mod.alloc ?_ _) | (with_reducible refine Mod.drew ?_) | (with_reducible refine Mod.drewN ?_ _))
    clear q0 p0 c0 f0 HC HXB HIW HEX hgW
    revert hCA hXB2 hMW
    generalize ((W.setCell ⟨c, 0, none⟩ (i64 (s.ep + 1))).setCell ⟨c, 1, none⟩ (i64 s.n)).setCell ⟨c, 2, none⟩ (.slice (some ⟨g, 0, none⟩) s.own.length gc) = W1
    intro hCA hXB2 hMW
    obtain ⟨w9, hup, hA9, hM9, hsz9⟩ := run_update (P := Tryz.prog) Tryz.underlying55 Tryz.underlying3 (show MapIs W1.drew a s.ats from hCA.ats.same rfl) x.mv (.agg #[i64 2, i64 0])
    have r4 := hCA.blk.read.1 4
    have r0 := hXB2.read.1 0
    have s4 := (Blk.mod (w := W1.drew) hCA.blk hM9 (by simpa using n2)).read.1 4
    have s0 := (Blk.mod (w := W1.drew) hXB2 hM9 (by have := hlts a (by simp); simp; omega)).read.1 0
    simp only [coordCells, List.getElem?_cons_succ, List.getElem?_cons_zero] at r4 r0 s4 s0
    have HA9 := Lib.hid hA9
    have HM9 := Lib.hid hM9
    have HCA := Lib.hid hCA
    have HMW := Lib.hid hMW
    clear hA9 hM9 hCA hXB2 hMW
    go_region_held3 (fun w' => w'.cell? ⟨c, 4, none⟩ = some (.map (some a)) ∧ w'.cell? ⟨w.heap.size, 0, none⟩ = some (i64 x.mv)) (first | assumption | (simp [*, go_sem]; done)) (fail)
    first | go_end0 | (go_wp2_with fail; first | go_end0 | refine bodyPost_ret (results_none rfl _ _ _) rfl ?_)
    have hm9 : Mod [a] W1 w9 := HM9.out.undrew'
    have hk := setAt_put (k := x.mv) (st := 2) (dn := 0) ⟨x, hx, rfl⟩
    have hA : MapIs w9 a ((setAt x.mv 2 0 s.L).map fun y => (y.mv, y.atv)) := by
      rw [← hk]; exact HA9.out
    refine ⟨rfl, c :: b :: a :: g :: m.toList, ⟨g, gc, b, a, m, rfl, HCA.out.ats_set hm9 hA (setAt_ent ..)⟩, ?_, ?_⟩
    · have M1 : Mod (c :: b :: a :: ob :: m.toList) w W1 := HMW.out.mono (by simp)
      exact M1.step hm9 (by simp)
    · intro k hk
      simp at hk ⊢
      rcases hk with e | e | e | e | e
      · simp [e]
      · simp [e]
      · simp [e]
      · right; omega
      · simp [e]
  · have hq : Blk (((w2.setCell ⟨w.heap.size + 1, 0, none⟩ (i64 (s.ep + 1))).setCell ⟨w.heap.size + 1, 1, none⟩ (i64 s.n)).setCell ⟨w.heap.size + 1, 2, none⟩ (.slice (some ⟨g, 0, none⟩) s.own.length gc)) (w.heap.size + 1) [i64 (s.ep + 1), i64 s.n, .slice (some ⟨g, 0, none⟩) s.own.length gc] 28 :=
      (((((Blk.at (w.alloc (.cells #[i64 x.mv, i64 x.part, i64 x.fr, i64 x.dst] 96)) [i64 0, i64 0, .slice none 0 0] 28 (w.heap.size + 1) (by simp)).drew.ext hE).set 0 _).set 1 _).set 2 _)
    have hEX : Ext (w.alloc (.cells #[i64 x.mv, i64 x.part, i64 x.fr, i64 x.dst] 96)) (((w2.setCell ⟨w.heap.size + 1, 0, none⟩ (i64 (s.ep + 1))).setCell ⟨w.heap.size + 1, 1, none⟩ (i64 s.n)).setCell ⟨w.heap.size + 1, 2, none⟩ (.slice (some ⟨g, 0, none⟩) s.own.length gc)) := by
      have M0 : Mod [] (w.alloc (.cells #[i64 x.mv, i64 x.part, i64 x.fr, i64 x.dst] 96)) w2 := Mod.of_ext hEW.out
      exact (((M0.setCell (by right; simp) _).setCell (by right; simp) _).setCell (by right; simp) _).to_ext (by simp)
    have hgw2 : w.heap.size + 2 ≤ g := by have := hg1; simp at this; omega
    have hIW : IA (((w2.setCell ⟨w.heap.size + 1, 0, none⟩ (i64 (s.ep + 1))).setCell ⟨w.heap.size + 1, 1, none⟩ (i64 s.n)).setCell ⟨w.heap.size + 1, 2, none⟩ (.slice (some ⟨g, 0, none⟩) s.own.length gc)) g 0 (s.own.set x.part.toNat x.dst) := by
      refine IA.mod (S := [w.heap.size + 1]) hI (by repeat (first | (with_reducible exact Mod.refl _ _) | (with_reducible assumption) | (with_reducible refine Mod.setCell ?_ (by simp) _) | (with_reducible refine Mod.alloc ?_ _) | (with_reducible refine Mod.drew ?_) | (with_reducible refine Mod.drewN ?_ _))) (by simp; omega)
    have hgW : g < (((w2.setCell ⟨w.heap.size + 1, 0, none⟩ (i64 (s.ep + 1))).setCell ⟨w.heap.size + 1, 1, none⟩ (i64 s.n)).setCell ⟨w.heap.size + 1, 2, none⟩ (.slice (some ⟨g, 0, none⟩) s.own.length gc)).heap.size := by simpa only [World.size_setCell] using hg2
    have hgw : w.heap.size + 1 ≤ g := by omega
    have hqw : w.heap.size + 1 ≤ w.heap.size + 1 := Nat.le_refl _
    clear hE hEW hI hg1 hg2 hgw2 z1 z2 z3 j0 j1 j2 j3 j4 j5 j6
    revert hq hEX hIW hgW hgw hqw
    generalize (((w2.setCell ⟨w.heap.size + 1, 0, none⟩ (i64 (s.ep + 1))).setCell ⟨w.heap.size + 1, 1, none⟩ (i64 s.n)).setCell ⟨w.heap.size + 1, 2, none⟩ (.slice (some ⟨g, 0, none⟩) s.own.length gc)) = W
    intro hq hEX hIW hgW hgw hqw
    obtain ⟨n1, n2, n3, n4, n5, n6, n7⟩ := mem_nodup HH.out.nd
    have hC := (HH.out.ext HE1.out).ext hEX
    have hxB := ((Blk.new w [i64 x.mv, i64 x.part, i64 x.fr, i64 x.dst] 96)).ext hEX
    obtain ⟨q0, p0⟩ := hq.read
    obtain ⟨c0, f0⟩ := hC.blk.read
    simp only [coordCells] at c0
    have hncq : ¬ c = w.heap.size + 1 := by omega
    have HC := Lib.hid hC
    have HXB := Lib.hid hxB
    have HIW := Lib.hid hIW
    have HEX := Lib.hid hEX
    clear hq hC hxB hIW hEX
    go_wp2_with fail
    have hlts := HH.out.lt
    have hCA : CRAt (((W.setCell ⟨c, 0, none⟩ (i64 (s.ep + 1))).setCell ⟨c, 1, none⟩ (i64 s.n)).setCell ⟨c, 2, none⟩ (.slice (some ⟨g, 0, none⟩) s.own.length gc)) c { s with ep := s.ep + 1, own := s.own.set x.part.toNat x.dst } g gc b a m := by
      refine ⟨?_, ?_, by simpa only [World.size_setCell] using hgW, ?_, ?_, ?_⟩
      · have hb := ((HC.out.blk.set 0 (i64 (s.ep + 1))).set 1 (i64 s.n)).set 2 (.slice (some ⟨g, 0, none⟩) s.own.length gc)
        simpa [coordCells, List.length_set] using hb
      · exact IA.mod (S := [c]) HIW.out (by repeat (first | (with_reducible exact Mod.refl _ _) | (with_reducible assumption) | (with_reducible refine Mod.setCell ?_ (by simp) _) | (with_reducible refine Mod.alloc ?_ _) | (with_reducible refine Mod.drew ?_) | (with_reducible refine Mod.drewN ?_ _))) (by simp; omega)
      · exact HC.out.book.mod (S := [c]) (by repeat (first | (with_reducible exact Mod.refl _ _) | (with_reducible assumption) | (with_reducible refine Mod.setCell ?_ (by simp) _) | (with_reducible refine Mod.alloc ?_ _) | (with_reducible refine Mod.drew ?_) | (with_reducible refine Mod.drewN ?_ _))) (by simp; omega) (by intro r hr; simp; exact (n7 r hr).1)
      · exact HC.out.ats.mod (S := [c]) (by repeat (first | (with_reducible exact Mod.refl _ _) | (with_reducible assumption) | (with_reducible refine Mod.setCell ?_ (by simp) _) | (with_reducible refine Mod.alloc ?_ _) | (with_reducible refine Mod.drew ?_) | (with_reducible refine Mod.drewN ?_ _))) (by simp; omega)
      · have hb := hlts b (by simp)
        have ha := hlts a (by simp)
        exact nodup_of n1 n2 (by omega) n4 (by omega) (by omega) (fun r hr => by have := n7 r hr; have := hlts r (by simp [hr]); omega)
    have hXB2 : Blk (((W.setCell ⟨c, 0, none⟩ (i64 (s.ep + 1))).setCell ⟨c, 1, none⟩ (i64 s.n)).setCell ⟨c, 2, none⟩ (.slice (some ⟨g, 0, none⟩) s.own.length gc)) w.heap.size [i64 x.mv, i64 x.part, i64 x.fr, i64 x.dst] 96 := HXB.out.mod (S := [c]) (by repeat (first | (with_reducible exact Mod.refl _ _) | (with_reducible assumption) | (with_reducible refine Mod.setCell ?_ (by simp) _) | (with_reducible refine Mod.alloc ?_ _) | (with_reducible refine Mod.drew ?_) | (with_reducible refine Mod.drewN ?_ _))) (by simp; omega)
    have hMW : Mod [c] w (((W.setCell ⟨c, 0, none⟩ (i64 (s.ep + 1))).setCell ⟨c, 1, none⟩ (i64 s.n)).setCell ⟨c, 2, none⟩ (.slice (some ⟨g, 0, none⟩) s.own.length gc)) := by
      have M0 : Mod [c] w W := Mod.of_ext (HE1.out.trans HEX.out)
      repeat (first | (with_reducible exact Mod.refl _ _) | (with_reducible assumption) | (with_reducible refine Mod.setCell ?_ (by simp) _) | (with_reducible refine Mod.alloc ?_ _) | (with_reducible refine Mod.drew ?_) | (with_reducible refine Mod.drewN ?_ _))
    clear q0 p0 c0 f0 HC HXB HIW HEX hgW
    revert hCA hXB2 hMW
    generalize ((W.setCell ⟨c, 0, none⟩ (i64 (s.ep + 1))).setCell ⟨c, 1, none⟩ (i64 s.n)).setCell ⟨c, 2, none⟩ (.slice (some ⟨g, 0, none⟩) s.own.length gc) = W1
    intro hCA hXB2 hMW
    obtain ⟨w9, hup, hA9, hM9, hsz9⟩ := run_update (P := Tryz.prog) Tryz.underlying55 Tryz.underlying3 (show MapIs W1.drew a s.ats from hCA.ats.same rfl) x.mv (.agg #[i64 2, i64 0])
    have r4 := hCA.blk.read.1 4
    have r0 := hXB2.read.1 0
    have s4 := (Blk.mod (w := W1.drew) hCA.blk hM9 (by simpa using n2)).read.1 4
    have s0 := (Blk.mod (w := W1.drew) hXB2 hM9 (by have := hlts a (by simp); simp; omega)).read.1 0
    simp only [coordCells, List.getElem?_cons_succ, List.getElem?_cons_zero] at r4 r0 s4 s0
    have HA9 := Lib.hid hA9
    have HM9 := Lib.hid hM9
    have HCA := Lib.hid hCA
    have HMW := Lib.hid hMW
    clear hA9 hM9 hCA hXB2 hMW
    go_region_held3 (fun w' => w'.cell? ⟨c, 4, none⟩ = some (.map (some a)) ∧ w'.cell? ⟨w.heap.size, 0, none⟩ = some (i64 x.mv)) (first | assumption | (simp [*, go_sem]; done)) (fail)
    first | go_end0 | (go_wp2_with fail; first | go_end0 | refine bodyPost_ret (results_none rfl _ _ _) rfl ?_)
    have hm9 : Mod [a] W1 w9 := HM9.out.undrew'
    have hk := setAt_put (k := x.mv) (st := 2) (dn := 0) ⟨x, hx, rfl⟩
    have hA : MapIs w9 a ((setAt x.mv 2 0 s.L).map fun y => (y.mv, y.atv)) := by
      rw [← hk]; exact HA9.out
    refine ⟨rfl, c :: b :: a :: g :: m.toList, ⟨g, gc, b, a, m, rfl, HCA.out.ats_set hm9 hA (setAt_ent ..)⟩, ?_, ?_⟩
    · have M1 : Mod (c :: b :: a :: ob :: m.toList) w W1 := HMW.out.mono (by simp)
      exact M1.step hm9 (by simp)
    · intro k hk
      simp at hk ⊢
      rcases hk with e | e | e | e | e
      · simp [e]
      · simp [e]
      · simp [e]
      · right; omega
      · simp [e]
end

section
set_option maxRecDepth 100000 in
set_option maxHeartbeats 1600000 in
theorem ready_no (c : Nat) (F : List Nat) (s : St) (x : Mv) (code : Int) (w : World) (h : CR w c F s) (hx : x ∈ s.L) (hc : code ≠ 1) :
    Calls Tryz.prog 48 #[.pointer (some ⟨c, 0, none⟩), .agg #[i64 x.mv, i64 x.part, i64 x.fr, i64 x.dst], i64 code] w (CPost w c F { s with L := setAt x.mv 3 0 s.L } (.tuple #[])) := by
  obtain ⟨ob, oc, b, a, m, rfl, h⟩ := h
  obtain ⟨n1, n2, n3, n4, n5, n6, n7⟩ := mem_nodup h.nd
  have hlts := h.lt
  have hcb : (code == 1) = false := by simpa using hc
  have e1 : Ext w (w.alloc (.cells #[i64 x.mv, i64 x.part, i64 x.fr, i64 x.dst] 96)) := by (refine Mod.to_ext (S := []) ?_ (by simp); repeat (first | (with_reducible exact Mod.refl _ _) | (with_reducible assumption) | (with_reducible refine Mod.alloc ?_ _) | (with_reducible refine Mod.drew ?_) | (with_reducible refine Mod.drewN ?_ _)))
  have hCA := h.ext e1
  have hXB2 := Blk.new w [i64 x.mv, i64 x.part, i64 x.fr, i64 x.dst] 96
  have hMW : Mod [c] w (w.alloc (.cells #[i64 x.mv, i64 x.part, i64 x.fr, i64 x.dst] 96)) := Mod.of_ext e1
  clear h e1
  go_enter Tryz.func48, Tryz.ntmps48
  go_wp2_with fail
  revert hCA hXB2 hMW
  generalize hW : World.alloc w (.cells [i64 x.mv, i64 x.part, i64 x.fr, i64 x.dst].toArray 96) = W1
  clear hW
  intro hCA hXB2 hMW
  obtain ⟨w9, hup, hA9, hM9, hsz9⟩ := run_update (P := Tryz.prog) Tryz.underlying55 Tryz.underlying3 (show MapIs W1.drew a s.ats from hCA.ats.same rfl) x.mv (.agg #[i64 3, i64 0])
  have r4 := hCA.blk.read.1 4
  have r0 := hXB2.read.1 0
  have s4 := (Blk.mod (w := W1.drew) hCA.blk hM9 (by simpa using n2)).read.1 4
  have s0 := (Blk.mod (w := W1.drew) hXB2 hM9 (by have := hlts a (by simp); simp; omega)).read.1 0
  simp only [coordCells, List.getElem?_cons_succ, List.getElem?_cons_zero] at r4 r0 s4 s0
  have HA9 := Lib.hid hA9
  have HM9 := Lib.hid hM9
  have HCA := Lib.hid hCA
  have HMW := Lib.hid hMW
  clear hA9 hM9 hCA hXB2 hMW
  go_region_held3 (fun w' => w'.cell? ⟨c, 4, none⟩ = some (.map (some a)) ∧ w'.cell? ⟨w.heap.size, 0, none⟩ = some (i64 x.mv)) (first | assumption | (simp [*, go_sem]; done)) (fail)
  first | go_end0 | (go_wp2_with fail; first | go_end0 | refine bodyPost_ret (results_none rfl _ _ _) rfl ?_)
  have hm9 : Mod [a] W1 w9 := HM9.out.undrew'
  have hk := setAt_put (k := x.mv) (st := 3) (dn := 0) ⟨x, hx, rfl⟩
  have hA : MapIs w9 a ((setAt x.mv 3 0 s.L).map fun y => (y.mv, y.atv)) := by
    rw [← hk]; exact HA9.out
  refine ⟨rfl, c :: b :: a :: ob :: m.toList, ⟨ob, oc, b, a, m, rfl, HCA.out.ats_set hm9 hA (setAt_ent ..)⟩, ?_, fun _ hk => .inl hk⟩
  have M1 : Mod (c :: b :: a :: ob :: m.toList) w W1 := HMW.out.mono (by simp)
  exact M1.step hm9 (by simp)
end
end Go.Proofs.YtchmhkdnegngdaaGreat
