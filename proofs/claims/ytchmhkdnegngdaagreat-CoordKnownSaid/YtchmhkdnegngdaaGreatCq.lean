/- coord: Order. -/
import Derived.Deep.DrawnRows
import Derived.Test.YtchmhkdnegngdaaGreatCo
set_option linter.unusedVariables false
set_option linter.unusedSimpArgs false
namespace Go.Proofs.YtchmhkdnegngdaaGreat
open Go.RowKit


def St.order (s : St) (part dst : Int) : St × Int × Int :=
  if mayV s.ep s.n s.own part dst ≠ 0 then (s, 0, mayV s.ep s.n s.own part dst)
  else if (entOf (s.L.map Mv.ent) part).isSome then (s, 0, 20)
  else ({ s with L := s.L ++ [⟨s.last + 1, part, s.own.getD part.toNat 0, dst, 1, 0⟩], last := s.last + 1 }, s.last + 1, 0)

/-- what a step answers, and leaves -/
def CPost (w : World) (c : Nat) (F : List Nat) (s' : St) (v : Value) (e : Ending) (w' : World) : Prop :=
  e = .returned v ∧ CStep w c F s' w'

theorem Mod.undrew' {S : List Nat} {w w' : World} (h : Mod S w.drew w') : Mod S w w' := (Mod.refl _ w).drew.trans h

set_option maxRecDepth 100000 in
set_option maxHeartbeats 800000 in
theorem order_no (c : Nat) (F : List Nat) (s : St) (part dst er : Int) (w : World) (h : CR w c F s) (her : er ≠ 0)
    (R : ∀ ob oc b a m, CRAt w c s ob oc b a m → Calls Tryz.prog 43 #[.pointer (some ⟨b, 0, none⟩), .agg #[i64 s.ep, i64 s.n, .slice (some ⟨ob, 0, none⟩) s.own.length oc], i64 part, i64 dst] w.drew (OrderNo 0 er w.drew)) :
    Calls Tryz.prog 11 #[.pointer (some ⟨c, 0, none⟩), i64 part, i64 dst] w (CPost w c F s (.tuple #[i64 0, i64 er])) := by
  have hno := none_calls c F s w h
  have HH := Lib.hid h
  obtain ⟨ob, oc, b, a, m, rfl, h⟩ := h
  have R1 := R ob oc b a m h
  have hlt := h.blk.lt
  obtain ⟨c0, f0⟩ := h.blk.read
  have k0 := c0 0
  have k1 := c0 1
  have k2 := c0 2
  have k3 := c0 3
  simp only [coordCells, List.getElem?_cons_succ, List.getElem?_cons_zero] at k0 k1 k2 k3
  have herb : (er == 0) = false := by simpa using her
  have J : ∀ w2, Ext w.drew w2 → w2.cell? ⟨c, 0, none⟩ = some (i64 s.ep) ∧ w2.cell? ⟨c, 1, none⟩ = some (i64 s.n) ∧ w2.cell? ⟨c, 2, none⟩ = some (.slice (some ⟨ob, 0, none⟩) s.own.length oc) ∧ w2.cell? ⟨c, 3, none⟩ = some (.pointer (some ⟨b, 0, none⟩)) := by
    intro w2 hE
    have hb := bcell hE
    exact ⟨(hb.1 c 0 hlt).trans k0, (hb.1 c 1 hlt).trans k1, (hb.1 c 2 hlt).trans k2, (hb.1 c 3 hlt).trans k3⟩
  have HJ := Lib.hid J
  clear c0 f0 h R J
  go_enter Tryz.func11, Tryz.ntmps11
  go_wp2_with fail
  refine hno.mono ?_
  rintro e w1 ⟨rfl, rfl⟩
  go_wp2_with fail
  go_region_held3 (fun w' => w'.cell? ⟨c, 0, none⟩ = some (i64 s.ep) ∧ w'.cell? ⟨c, 1, none⟩ = some (i64 s.n) ∧ w'.cell? ⟨c, 2, none⟩ = some (.slice (some ⟨ob, 0, none⟩) s.own.length oc) ∧ w'.cell? ⟨c, 3, none⟩ = some (.pointer (some ⟨b, 0, none⟩))) (first | assumption | (simp [*, go_sem]; done)) (with_reducible refine R1.mono ?_; intro e w2 q0; unfold OrderNo at q0; obtain ⟨rfl, hE⟩ := q0; obtain ⟨j0, j1, j2, j3⟩ := HJ.out _ hE)
  go_wp2_with fail
  go_ret2
  exact ⟨rfl, CStep.same HH.out (Mod.undrew' (S := []) (Mod.of_ext hE) |>.to_ext (by simp))⟩

theorem mem_nodup {c b a ob : Nat} {m : Option Nat} (h : (c :: b :: a :: ob :: m.toList).Nodup) :
    c ≠ b ∧ c ≠ a ∧ c ≠ ob ∧ b ≠ a ∧ b ≠ ob ∧ a ≠ ob ∧ (∀ r, m = some r → r ≠ c ∧ r ≠ b ∧ r ≠ a ∧ r ≠ ob) := by
  simp only [List.nodup_cons, List.mem_cons, Option.mem_toList, not_or] at h
  obtain ⟨⟨h1, h2, h3, h4⟩, ⟨h5, h6, h7⟩, ⟨h8, h9⟩, h10, _⟩ := h
  refine ⟨h1, h2, h3, h5, h6, h8, ?_⟩
  intro r hr
  subst hr
  simp at h4 h7 h9 h10
  exact ⟨fun e => h4 e, fun e => h7 e, fun e => h9 e, fun e => h10 e⟩

theorem nodup_of {c b a ob : Nat} {m : Option Nat} (h1 : c ≠ b) (h2 : c ≠ a) (h3 : c ≠ ob) (h4 : b ≠ a) (h5 : b ≠ ob) (h6 : a ≠ ob) (h7 : ∀ r, m = some r → r ≠ c ∧ r ≠ b ∧ r ≠ a ∧ r ≠ ob) :
    (c :: b :: a :: ob :: m.toList).Nodup := by
  cases m with
  | none => simp; omega
  | some r =>
    have := h7 r rfl
    simp; omega

theorem ats_append (L : List Mv) (x : Mv) (hx : atKey x.mv (L.map fun y => (y.mv, y.atv)) = none) (v : Value) (hv : v = x.atv) :
    putKey x.mv v (L.map fun y => (y.mv, y.atv)) = (L ++ [x]).map fun y => (y.mv, y.atv) := by
  subst hv
  unfold atKey at hx
  have hp : posOf x.mv (L.map fun y => (y.mv, y.atv)) 0 = none := by
    cases hh : posOf x.mv (L.map fun y => (y.mv, y.atv)) 0 with
    | none => rfl
    | some q => rw [hh] at hx; cases hx
  rw [(posOf_none x.atv hp).1]; simp

theorem atKey_new (L : List Mv) (n : Int) (h : ∀ x ∈ L, x.mv < n) : atKey n (L.map fun y => (y.mv, y.atv)) = none := by
  induction L with
  | nil => rfl
  | cons x L ih =>
    rw [List.map_cons, atKey_cons, if_neg (by have := h x (by simp); omega)]
    exact ih (fun y hy => h y (by simp [hy]))

set_option maxRecDepth 100000 in
set_option maxHeartbeats 1600000 in
theorem order_yes (c : Nat) (F : List Nat) (s : St) (part dst : Int) (w : World) (h : CR w c F s) (hm : mayV s.ep s.n s.own part dst = 0) (ho : entOf (s.L.map Mv.ent) part = none)
    (hl : s.own.length ≤ 4096) (hf : s.last < 2147483647) (hf0 : 0 ≤ s.last) (hmv : ∀ x ∈ s.L, x.mv ≤ s.last) :
    Calls Tryz.prog 11 #[.pointer (some ⟨c, 0, none⟩), i64 part, i64 dst] w (CPost w c F { s with L := s.L ++ [⟨s.last + 1, part, s.own.getD part.toNat 0, dst, 1, 0⟩], last := s.last + 1 } (.tuple #[i64 (s.last + 1), i64 0])) := by
  have hno := none_calls c F s w h
  obtain ⟨ob, oc, b, a, m, rfl, h⟩ := h
  obtain ⟨n1, n2, n3, n4, n5, n6, n7⟩ := mem_nodup h.nd
  have hd : Ext w w.drew := by (refine Mod.to_ext (S := []) ?_ (by simp); repeat (first | (with_reducible exact Mod.refl _ _) | (with_reducible assumption) | (with_reducible refine Mod.alloc ?_ _) | (with_reducible refine Mod.drew ?_) | (with_reducible refine Mod.drewN ?_ _)))
  have R1 := border_ok b m s.last (s.L.map Mv.ent) s.ep s.n ob 0 oc s.own part dst w.drew (h.book.ext hd) hl (h.own.ext hd) hm ho hf hf0 (fun e => (n7 b e).2.1 rfl) (fun e => n5 e.symm) (fun r hr e => (n7 r hr).2.2.2 e.symm)
  have hlt := h.blk.lt
  obtain ⟨c0, f0⟩ := h.blk.read
  have k0 := c0 0
  have k1 := c0 1
  have k2 := c0 2
  have k3 := c0 3
  have k4 := c0 4
  simp only [coordCells, List.getElem?_cons_succ, List.getElem?_cons_zero] at k0 k1 k2 k3 k4
  have J : ∀ w2, Mod (b :: m.toList) w.drew w2 → w2.cell? ⟨c, 0, none⟩ = some (i64 s.ep) ∧ w2.cell? ⟨c, 1, none⟩ = some (i64 s.n) ∧ w2.cell? ⟨c, 2, none⟩ = some (.slice (some ⟨ob, 0, none⟩) s.own.length oc) ∧ w2.cell? ⟨c, 3, none⟩ = some (.pointer (some ⟨b, 0, none⟩)) ∧ w2.cell? ⟨c, 4, none⟩ = some (.map (some a)) := by
    intro w2 hM
    have hb : Blk w2 c (coordCells s ob oc b a) 57 := h.blk.mod hM.undrew' (by simp; exact ⟨n1, fun e => (n7 c e).1 rfl⟩)
    have d := hb.read.1
    simp only [coordCells] at d
    exact ⟨d 0, d 1, d 2, d 3, d 4⟩
  have HJ := Lib.hid J
  have HH := Lib.hid h
  have Hmv := Lib.hid hmv
  clear c0 f0 J ho hm hmv h
  go_enter Tryz.func11, Tryz.ntmps11
  go_wp2_with fail
  refine hno.mono ?_
  rintro e w1 ⟨rfl, rfl⟩
  go_wp2_with fail
  go_region_held3 (fun w' => w'.cell? ⟨c, 0, none⟩ = some (i64 s.ep) ∧ w'.cell? ⟨c, 1, none⟩ = some (i64 s.n) ∧ w'.cell? ⟨c, 2, none⟩ = some (.slice (some ⟨ob, 0, none⟩) s.own.length oc) ∧ w'.cell? ⟨c, 3, none⟩ = some (.pointer (some ⟨b, 0, none⟩)) ∧ w'.cell? ⟨c, 4, none⟩ = some (.map (some a))) (first | assumption | (simp [*, go_sem]; done)) (with_reducible refine R1.mono ?_; intro e w2 q0; unfold OrderYes at q0; obtain ⟨r, rfl, hB, hM, hr⟩ := q0; obtain ⟨j0, j1, j2, j3, j4⟩ := HJ.out _ hM)
  have hM := hM.undrew'
  have hA2 : MapIs w2 a s.ats := HH.out.ats.mod hM (by simp; exact ⟨fun e => n4 e.symm, fun e => (n7 a e).2.2.1 rfl⟩)
  obtain ⟨w3, hup, hA3, hM3, hsz3⟩ := run_update (P := Tryz.prog) Tryz.underlying55 Tryz.underlying3 hA2 (s.last + 1) (.agg #[i64 1, i64 0])
  have HA3 := Lib.hid hA3
  have HM3 := Lib.hid hM3
  have HB := Lib.hid hB
  have HM := Lib.hid hM
  have HR := Lib.hid hr
  clear hA2 hA3 hM3 hB hM hr R1
  go_wp2_with fail
  go_ret2
  have hma : Mod (c :: b :: a :: ob :: m.toList) w w3 := (HM.out.mono (by intro k hk; left; simp at hk ⊢; rcases hk with e | e; simp [e]; simp [e])).step HM3.out (by simp)
  have hrr : r ≠ c ∧ r ≠ b ∧ r ≠ a ∧ r ≠ ob := by
    rcases HR.out with e | ⟨_, e⟩
    · exact n7 r e
    · have e' : w.heap.size ≤ r := e
      have h1 := HH.out.lt
      have hc := h1 c (by simp)
      have hb := h1 b (by simp)
      have ha := h1 a (by simp)
      have hob := h1 ob (by simp)
      omega
  refine ⟨rfl, c :: b :: a :: ob :: (some r).toList, ⟨ob, oc, b, a, some r, rfl, ?_⟩, hma, ?_⟩
  · refine ⟨?_, ?_, ?_, ?_, ?_, nodup_of n1 n2 n3 n4 n5 n6 (fun r' hr' => by cases hr'; exact hrr)⟩
    · have hb : Blk w2 c (coordCells s ob oc b a) 57 := HH.out.blk.mod HM.out (by simp; exact ⟨n1, fun e => (n7 c e).1 rfl⟩)
      exact hb.mod HM3.out (by simpa using n2)
    · have hi : IA w2 ob 0 s.own := HH.out.own.mod HM.out (by simp; exact ⟨fun e => n5 e.symm, fun e => (n7 ob e).2.2.2 rfl⟩)
      exact hi.mod HM3.out (by simp; exact fun e => n6 e.symm)
    · exact Nat.lt_of_lt_of_le HH.out.obl hma.size
    · have hb := HB.out.mod HM3.out (by simpa using n4) (by intro r' hr'; cases hr'; simpa using hrr.2.2.1)
      rw [List.map_append]
      exact hb
    · have hk := ats_append s.L ⟨s.last + 1, part, s.own.getD part.toNat 0, dst, 1, 0⟩ (atKey_new _ _ (fun x hx => show x.mv < s.last + 1 by have := Hmv.out x hx; omega)) (.agg #[i64 1, i64 0]) rfl
      unfold St.ats
      rw [← hk]
      exact HA3.out
  · intro k hk
    simp at hk
    rcases hk with e | e | e | e | e
    · left; simp [e]
    · left; simp [e]
    · left; simp [e]
    · left; simp [e]
    · subst e
      rcases HR.out with e | ⟨_, e⟩
      · left; simp [e]
      · right; exact e

/-- Order's contract -/
theorem corder_calls (c : Nat) (F : List Nat) (s : St) (part dst : Int) (w : World) (h : CR w c F s)
    (hl : s.own.length ≤ 4096) (hf : s.last < 2147483647) (hf0 : 0 ≤ s.last) (hmv : ∀ x ∈ s.L, x.mv ≤ s.last) :
    Calls Tryz.prog 11 #[.pointer (some ⟨c, 0, none⟩), i64 part, i64 dst] w (CPost w c F (s.order part dst).1 (.tuple #[i64 (s.order part dst).2.1, i64 (s.order part dst).2.2])) := by
  unfold St.order
  have hd : Ext w w.drew := by (refine Mod.to_ext (S := []) ?_ (by simp); repeat (first | (with_reducible exact Mod.refl _ _) | (with_reducible assumption) | (with_reducible refine Mod.alloc ?_ _) | (with_reducible refine Mod.drew ?_) | (with_reducible refine Mod.drewN ?_ _)))
  by_cases hm : mayV s.ep s.n s.own part dst = 0
  · rw [if_neg (by simpa using hm)]
    cases ho : entOf (s.L.map Mv.ent) part with
    | none =>
      rw [if_neg (by simp)]
      exact order_yes c F s part dst w h hm ho hl hf hf0 hmv
    | some ent =>
      rw [if_pos (by simp)]
      exact order_no c F s part dst 20 w h (by decide) (fun ob oc b a m h => border_there b m s.last _ s.ep s.n ob 0 oc s.own part dst w.drew (h.book.ext hd) hl (h.own.ext hd) hm ent ho)
  · rw [if_pos (by simpa using hm)]
    exact order_no c F s part dst _ w h hm (fun ob oc b a m h => border_may b m s.last (s.L.map Mv.ent) s.ep s.n ob 0 oc s.own part dst w.drew hl (h.own.ext hd) hm)
end Go.Proofs.YtchmhkdnegngdaaGreat
