/- A coordinator: its state as plain data, how it lies in memory; none, moves.New, New. coord: Order. coord: Abort. -/
import Derived.Test.YtchmhkdnegngdaaGreatGT2
import Derived.Test.YtchmhkdnegngdaaGreatGTb
import Derived.Deep.DrawnRows
set_option linter.unusedVariables false
set_option linter.unusedSimpArgs false
namespace Go.Proofs.YtchmhkdnegngdaaGreat
open Go.RowKit

section
/-- a move: number, shard, from, to, state, who knows -/
structure Mv where
  mv : Int
  part : Int
  fr : Int
  dst : Int
  st : Int
  dn : Int
deriving DecidableEq

def Mv.ent (x : Mv) : Ent := ⟨x.mv, x.part, x.fr, x.dst⟩
def Mv.atv (x : Mv) : Value := .agg #[i64 x.st, i64 x.dn]

/-- a coordinator's state -/
structure St where
  ep : Int
  n : Int
  own : List Int
  L : List Mv
  last : Int
  com : Int
  ab : Int

/-- the table of states -/
def St.ats (s : St) : List (Int × Value) := s.L.map (fun x => (x.mv, x.atv))

def coordCells (s : St) (ob oc b a : Nat) : List Value :=
  [i64 s.ep, i64 s.n, .slice (some ⟨ob, 0, none⟩) s.own.length oc, .pointer (some ⟨b, 0, none⟩), .map (some a), i64 s.com, i64 s.ab]

/-- a coordinator in memory: its block, its footprint, its state -/
structure CRAt (w : World) (c : Nat) (s : St) (ob oc b a : Nat) (m : Option Nat) : Prop where
  blk : Blk w c (coordCells s ob oc b a) 57
  own : IA w ob 0 s.own
  obl : ob < w.heap.size
  book : BookIs w b m s.last (s.L.map Mv.ent)
  ats : MapIs w a s.ats
  nd : (c :: b :: a :: ob :: m.toList).Nodup

def CR (w : World) (c : Nat) (F : List Nat) (s : St) : Prop :=
  ∃ ob oc b a m, F = c :: b :: a :: ob :: m.toList ∧ CRAt w c s ob oc b a m

theorem CRAt.mod {S : List Nat} {w w' : World} {c : Nat} {s : St} {ob oc b a : Nat} {m : Option Nat} (h : CRAt w c s ob oc b a m) (e : Mod S w w') (hs : ∀ k ∈ c :: b :: a :: ob :: m.toList, k ∉ S) : CRAt w' c s ob oc b a m :=
  ⟨h.blk.mod e (hs _ (by simp)), h.own.mod e (hs _ (by simp)), Nat.lt_of_lt_of_le h.obl e.size, h.book.mod e (hs _ (by simp)) (fun r hr => hs _ (by simp [hr])), h.ats.mod e (hs _ (by simp)), h.nd⟩

theorem CRAt.ext {w w' : World} {c : Nat} {s : St} {ob oc b a : Nat} {m : Option Nat} (h : CRAt w c s ob oc b a m) (e : Ext w w') : CRAt w' c s ob oc b a m :=
  h.mod (S := []) (Mod.of_ext e) (by simp)

theorem CRAt.lt {w : World} {c : Nat} {s : St} {ob oc b a : Nat} {m : Option Nat} (h : CRAt w c s ob oc b a m) : ∀ k ∈ c :: b :: a :: ob :: m.toList, k < w.heap.size := by
  intro k hk
  simp only [List.mem_cons, Option.mem_toList] at hk
  rcases hk with e | e | e | e | e
  · rw [e]; exact h.blk.lt
  · rw [e]; exact h.book.blk.lt
  · rw [e]; exact h.ats.lt
  · rw [e]; exact h.obl
  · exact (h.book.msome k e).lt

theorem CR.mod {S : List Nat} {w w' : World} {c : Nat} {F : List Nat} {s : St} (h : CR w c F s) (e : Mod S w w') (hs : ∀ k ∈ F, k ∉ S) : CR w' c F s := by
  obtain ⟨ob, oc, b, a, m, rfl, h⟩ := h
  exact ⟨ob, oc, b, a, m, rfl, h.mod e hs⟩
theorem CR.ext {w w' : World} {c : Nat} {F : List Nat} {s : St} (h : CR w c F s) (e : Ext w w') : CR w' c F s := h.mod (S := []) (Mod.of_ext e) (by simp)
theorem CR.lt {w : World} {c : Nat} {F : List Nat} {s : St} (h : CR w c F s) : ∀ k ∈ F, k < w.heap.size := by
  obtain ⟨ob, oc, b, a, m, rfl, h⟩ := h
  exact h.lt
theorem CR.mem {w : World} {c : Nat} {F : List Nat} {s : St} (h : CR w c F s) : c ∈ F := by
  obtain ⟨ob, oc, b, a, m, rfl, h⟩ := h
  simp

/-- a step of a coordinator from footprint F to state s' -/
def CStep (w : World) (c : Nat) (F : List Nat) (s' : St) (w' : World) : Prop :=
  ∃ F', CR w' c F' s' ∧ Mod F w w' ∧ ∀ k ∈ F', k ∈ F ∨ w.heap.size ≤ k

theorem CStep.same {w w' : World} {c : Nat} {F : List Nat} {s : St} (h : CR w c F s) (e : Ext w w') : CStep w c F s w' :=
  ⟨F, h.ext e, Mod.of_ext e, fun _ hk => .inl hk⟩

theorem none_calls (c : Nat) (F : List Nat) (s : St) (w : World) (h : CR w c F s) :
    Calls Tryz.prog 42 #[.pointer (some ⟨c, 0, none⟩)] w (fun e w' => e = .returned (.bool false) ∧ w = w') := by
  obtain ⟨ob, oc, b, a, m, rfl, h⟩ := h
  obtain ⟨c0, f0⟩ := h.blk.read
  have c1 := c0 1
  have c3 := c0 3
  simp only [coordCells, List.getElem?_cons_succ, List.getElem?_cons_zero] at c1 c3
  clear c0 h
  go_enter Tryz.func42, Tryz.ntmps42
  go_wp2_with fail
  go_ret
  exact ⟨rfl, rfl⟩

theorem bnew_calls (w : World) : Calls Tryz.prog 41 #[] w (fun e w' => e = .returned (.pointer (some ⟨w.heap.size, 0, none⟩)) ∧ w.alloc (.cells #[.map none, i64 0] 118) = w') := by
  go_enter Tryz.func41, Tryz.ntmps41
  go_wp2_with fail
  go_ret
  exact ⟨rfl, rfl⟩

/-- a new coordinator's state -/
def St.new (ep n : Int) (own : List Int) : St := ⟨ep, n, own, [], 0, 0, 0⟩

def NewPost (s : St) (w : World) (e : Ending) (w' : World) : Prop :=
  ∃ c F, e = .returned (.tuple #[.pointer (some ⟨c, 0, none⟩), i64 0]) ∧ CR w' c F s ∧ (∀ k ∈ F, w.heap.size ≤ k) ∧ Ext w w'

set_option maxRecDepth 100000 in
theorem cnew_calls (ep n : Int) (b off cap : Nat) (xs : List Int) (w : World) (hl : xs.length ≤ 4096) (hx : IA w b off xs) (hr : rightB ep n xs = true) :
    Calls Tryz.prog 9 #[.agg #[i64 ep, i64 n, .slice (some ⟨b, off, none⟩) xs.length cap]] w (NewPost (St.new ep n xs) w) := by
  obtain ⟨_, _, _, hr4, hr5, _⟩ := rightB_true hr
  have hmm := @run_makeMap Tryz.prog
  have e1 : Ext w (w.alloc (.cells #[i64 ep, i64 n, .slice (some ⟨b, off, none⟩) xs.length cap] 28)) := by (refine Mod.to_ext (S := []) ?_ (by simp); repeat (first | (with_reducible exact Mod.refl _ _) | (with_reducible assumption) | (with_reducible refine Mod.alloc ?_ _) | (with_reducible refine Mod.drew ?_) | (with_reducible refine Mod.drewN ?_ _)))
  have R := right_calls ep n b off cap xs _ hl (hx.ext e1)
  rw [hr] at R
  have HE1 := Lib.hid e1
  clear e1
  go_enter Tryz.func9, Tryz.ntmps9
  go_wp2_with fail
  refine R.mono ?_
  rintro e w1 ⟨rfl, rfl⟩
  go_wp2_with fail
  have e2 : Ext w ((w.alloc (.cells #[i64 ep, i64 n, .slice (some ⟨b, off, none⟩) xs.length cap] 28)).alloc (.cells #[i64 ep, i64 n, .slice (some ⟨b, off, none⟩) xs.length cap] 28)) := by (refine Mod.to_ext (S := []) ?_ (by simp); repeat (first | (with_reducible exact Mod.refl _ _) | (with_reducible assumption) | (with_reducible refine Mod.alloc ?_ _) | (with_reducible refine Mod.drew ?_) | (with_reducible refine Mod.drewN ?_ _)))
  refine (copy_calls ep n b off cap xs _ hl (hx.ext e2) (by omega)).mono ?_
  intro e w3 q0
  unfold NewTable at q0
  obtain ⟨g, gc, rfl, ho, hE3⟩ := q0
  obtain ⟨g', gc', heq, hg0, hg1, hI, _⟩ := ownsRow_IA ho (by omega)
  have hgg : g = g' := by injection heq with h1 _ _; injection h1 with h1; injection h1 with h1
  subst hgg
  have hsz := hE3.size
  simp only [World.size_alloc] at hsz hg0
  have HI := Lib.hid hI
  have HE3 := Lib.hid (e2.trans hE3)
  clear hI hE3 e2 ho heq R hx
  go_wp2_with fail
  refine (bnew_calls w3).mono ?_
  rintro e w4 ⟨rfl, rfl⟩
  go_wp2_with fail
  go_ret2
  have eW : Ext w3 (((w3.alloc (.cells #[.map none, i64 0] 118)).alloc (.map #[] 0)).alloc (.cells #[i64 ep, i64 n, .slice (some ⟨g, 0, none⟩) xs.length gc, .pointer (some ⟨w3.heap.size, 0, none⟩), .map (some (w3.heap.size + 1)), i64 0, i64 0] 57)) := by (refine Mod.to_ext (S := []) ?_ (by simp); repeat (first | (with_reducible exact Mod.refl _ _) | (with_reducible assumption) | (with_reducible refine Mod.alloc ?_ _) | (with_reducible refine Mod.drew ?_) | (with_reducible refine Mod.drewN ?_ _)))
  unfold NewPost
  refine ⟨w3.heap.size + 1 + 1, [w3.heap.size + 1 + 1, w3.heap.size, w3.heap.size + 1, g], rfl, ⟨g, gc, w3.heap.size, w3.heap.size + 1, none, rfl, ?_⟩, ?_, HE3.out.trans eW⟩
  · refine ⟨Blk.at _ _ 57 _ (by simp), HI.out.ext eW, by simp; omega, ⟨((Blk.new w3 [.map none, i64 0] 118).old _).old _, fun _ => rfl, fun r hr => (by cases hr)⟩, ?_, by simp; omega⟩
    have hm := MapIs.made (w3.alloc (.cells #[.map none, i64 0] 118))
    simp only [World.size_alloc] at hm
    exact hm.alloc _
  · intro k hk
    simp at hk
    omega
end

section
def St.order (s : St) (part dst : Int) : St × Int × Int :=
  if mayV s.ep s.n s.own part dst ≠ 0 then (s, 0, mayV s.ep s.n s.own part dst)
  else if (entOf (s.L.map Mv.ent) part).isSome then (s, 0, 20)
  else ({ s with L := s.L ++ [⟨s.last + 1, part, s.own.getD part.toNat 0, dst, 1, 0⟩], last := s.last + 1 }, s.last + 1, 0)

/-- what a step answers, and leaves -/
def CPost (w : World) (c : Nat) (F : List Nat) (s' : St) (v : Value) (e : Ending) (w' : World) : Prop :=
  e = .returned v ∧ CStep w c F s' w'

theorem Mod.undrew' {S : List Nat} {w w' : World} (h : Mod S w.drew w') : Mod S w w' := (Mod.refl _ w).drew.trans h

set_option maxRecDepth 100000 in
set_option maxHeartbeats 800000 in
theorem order_no (c : Nat) (F : List Nat) (s : St) (part dst er : Int) (w : World) (h : CR w c F s) (her : er ≠ 0)
    (R : ∀ ob oc b a m, CRAt w c s ob oc b a m → Calls Tryz.prog 43 #[.pointer (some ⟨b, 0, none⟩), .agg #[i64 s.ep, i64 s.n, .slice (some ⟨ob, 0, none⟩) s.own.length oc], i64 part, i64 dst] w.drew (OrderNo 0 er w.drew)) :
    Calls Tryz.prog 11 #[.pointer (some ⟨c, 0, none⟩), i64 part, i64 dst] w (CPost w c F s (.tuple #[i64 0, i64 er])) := by
  have hno := none_calls c F s w h
  have HH := Lib.hid h
  obtain ⟨ob, oc, b, a, m, rfl, h⟩ := h
  have R1 := R ob oc b a m h
  have hlt := h.blk.lt
  obtain ⟨c0, f0⟩ := h.blk.read
  have k0 := c0 0
  have k1 := c0 1
  have k2 := c0 2
  have k3 := c0 3
  simp only [coordCells, List.getElem?_cons_succ, List.getElem?_cons_zero] at k0 k1 k2 k3
  have herb : (er == 0) = false := by simpa using her
  have J : ∀ w2, Ext w.drew w2 → w2.cell? ⟨c, 0, none⟩ = some (i64 s.ep) ∧ w2.cell? ⟨c, 1, none⟩ = some (i64 s.n) ∧ w2.cell? ⟨c, 2, none⟩ = some (.slice (some ⟨ob, 0, none⟩) s.own.length oc) ∧ w2.cell? ⟨c, 3, none⟩ = some (.pointer (some ⟨b, 0, none⟩)) := by
    intro w2 hE
    have hb := bcell hE
    exact ⟨(hb.1 c 0 hlt).trans k0, (hb.1 c 1 hlt).trans k1, (hb.1 c 2 hlt).trans k2, (hb.1 c 3 hlt).trans k3⟩
  have HJ := Lib.hid J
  clear c0 f0 h R J
  go_enter Tryz.func11, Tryz.ntmps11
  go_wp2_with fail
  refine hno.mono ?_
  rintro e w1 ⟨rfl, rfl⟩
  go_wp2_with fail
  go_region_held3 (fun w' => w'.cell? ⟨c, 0, none⟩ = some (i64 s.ep) ∧ w'.cell? ⟨c, 1, none⟩ = some (i64 s.n) ∧ w'.cell? ⟨c, 2, none⟩ = some (.slice (some ⟨ob, 0, none⟩) s.own.length oc) ∧ w'.cell? ⟨c, 3, none⟩ = some (.pointer (some ⟨b, 0, none⟩))) (first | assumption | (simp [*, go_sem]; done)) (with_reducible refine R1.mono ?_; intro e w2 q0; unfold OrderNo at q0; obtain ⟨rfl, hE⟩ := q0; obtain ⟨j0, j1, j2, j3⟩ := HJ.out _ hE)
  go_wp2_with fail
  go_ret2
  exact ⟨rfl, CStep.same HH.out (Mod.undrew' (S := []) (Mod.of_ext hE) |>.to_ext (by simp))⟩

theorem mem_nodup {c b a ob : Nat} {m : Option Nat} (h : (c :: b :: a :: ob :: m.toList).Nodup) :
    c ≠ b ∧ c ≠ a ∧ c ≠ ob ∧ b ≠ a ∧ b ≠ ob ∧ a ≠ ob ∧ (∀ r, m = some r → r ≠ c ∧ r ≠ b ∧ r ≠ a ∧ r ≠ ob) := by
  simp only [List.nodup_cons, List.mem_cons, Option.mem_toList, not_or] at h
  obtain ⟨⟨h1, h2, h3, h4⟩, ⟨h5, h6, h7⟩, ⟨h8, h9⟩, h10, _⟩ := h
  refine ⟨h1, h2, h3, h5, h6, h8, ?_⟩
  intro r hr
  subst hr
  simp at h4 h7 h9 h10
  exact ⟨fun e => h4 e, fun e => h7 e, fun e => h9 e, fun e => h10 e⟩

theorem nodup_of {c b a ob : Nat} {m : Option Nat} (h1 : c ≠ b) (h2 : c ≠ a) (h3 : c ≠ ob) (h4 : b ≠ a) (h5 : b ≠ ob) (h6 : a ≠ ob) (h7 : ∀ r, m = some r → r ≠ c ∧ r ≠ b ∧ r ≠ a ∧ r ≠ ob) :
    (c :: b :: a :: ob :: m.toList).Nodup := by
  cases m with
  | none => simp; omega
  | some r =>
    have := h7 r rfl
    simp; omega

theorem ats_append (L : List Mv) (x : Mv) (hx : atKey x.mv (L.map fun y => (y.mv, y.atv)) = none) (v : Value) (hv : v = x.atv) :
    putKey x.mv v (L.map fun y => (y.mv, y.atv)) = (L ++ [x]).map fun y => (y.mv, y.atv) := by
  subst hv
  unfold atKey at hx
  have hp : posOf x.mv (L.map fun y => (y.mv, y.atv)) 0 = none := by
    cases hh : posOf x.mv (L.map fun y => (y.mv, y.atv)) 0 with
    | none => rfl
    | some q => rw [hh] at hx; cases hx
  rw [(posOf_none x.atv hp).1]; simp

theorem atKey_new (L : List Mv) (n : Int) (h : ∀ x ∈ L, x.mv < n) : atKey n (L.map fun y => (y.mv, y.atv)) = none := by
  induction L with
  | nil => rfl
  | cons x L ih =>
    rw [List.map_cons, atKey_cons, if_neg (by have := h x (by simp); omega)]
    exact ih (fun y hy => h y (by simp [hy]))

set_option maxRecDepth 100000 in
set_option maxHeartbeats 1600000 in
theorem order_yes (c : Nat) (F : List Nat) (s : St) (part dst : Int) (w : World) (h : CR w c F s) (hm : mayV s.ep s.n s.own part dst = 0) (ho : entOf (s.L.map Mv.ent) part = none)
    (hl : s.own.length ≤ 4096) (hf : s.last < 2147483647) (hf0 : 0 ≤ s.last) (hmv : ∀ x ∈ s.L, x.mv ≤ s.last) :
    Calls Tryz.prog 11 #[.pointer (some ⟨c, 0, none⟩), i64 part, i64 dst] w (CPost w c F { s with L := s.L ++ [⟨s.last + 1, part, s.own.getD part.toNat 0, dst, 1, 0⟩], last := s.last + 1 } (.tuple #[i64 (s.last + 1), i64 0])) := by
  have hno := none_calls c F s w h
  obtain ⟨ob, oc, b, a, m, rfl, h⟩ := h
  obtain ⟨n1, n2, n3, n4, n5, n6, n7⟩ := mem_nodup h.nd
  have hd : Ext w w.drew := by (refine Mod.to_ext (S := []) ?_ (by simp); repeat (first | (with_reducible exact Mod.refl _ _) | (with_reducible assumption) | (with_reducible refine Mod.alloc ?_ _) | (with_reducible refine Mod.drew ?_) | (with_reducible refine Mod.drewN ?_ _)))
  have R1 := border_ok b m s.last (s.L.map Mv.ent) s.ep s.n ob 0 oc s.own part dst w.drew (h.book.ext hd) hl (h.own.ext hd) hm ho hf hf0 (fun e => (n7 b e).2.1 rfl) (fun e => n5 e.symm) (fun r hr e => (n7 r hr).2.2.2 e.symm)
  have hlt := h.blk.lt
  obtain ⟨c0, f0⟩ := h.blk.read
  have k0 := c0 0
  have k1 := c0 1
  have k2 := c0 2
  have k3 := c0 3
  have k4 := c0 4
  simp only [coordCells, List.getElem?_cons_succ, List.getElem?_cons_zero] at k0 k1 k2 k3 k4
  have J : ∀ w2, Mod (b :: m.toList) w.drew w2 → w2.cell? ⟨c, 0, none⟩ = some (i64 s.ep) ∧ w2.cell? ⟨c, 1, none⟩ = some (i64 s.n) ∧ w2.cell? ⟨c, 2, none⟩ = some (.slice (some ⟨ob, 0, none⟩) s.own.length oc) ∧ w2.cell? ⟨c, 3, none⟩ = some (.pointer (some ⟨b, 0, none⟩)) ∧ w2.cell? ⟨c, 4, none⟩ = some (.map (some a)) := by
    intro w2 hM
    have hb : Blk w2 c (coordCells s ob oc b a) 57 := h.blk.mod hM.undrew' (by simp; exact ⟨n1, fun e => (n7 c e).1 rfl⟩)
    have d := hb.read.1
    simp only [coordCells] at d
    exact ⟨d 0, d 1, d 2, d 3, d 4⟩
  have HJ := Lib.hid J
  have HH := Lib.hid h
  have Hmv := Lib.hid hmv
  clear c0 f0 J ho hm hmv h
  go_enter Tryz.func11, Tryz.ntmps11
  go_wp2_with fail
  refine hno.mono ?_
  rintro e w1 ⟨rfl, rfl⟩
  go_wp2_with fail
  go_region_held3 (fun w' => w'.cell? ⟨c, 0, none⟩ = some (i64 s.ep) ∧ w'.cell? ⟨c, 1, none⟩ = some (i64 s.n) ∧ w'.cell? ⟨c, 2, none⟩ = some (.slice (some ⟨ob, 0, none⟩) s.own.length oc) ∧ w'.cell? ⟨c, 3, none⟩ = some (.pointer (some ⟨b, 0, none⟩)) ∧ w'.cell? ⟨c, 4, none⟩ = some (.map (some a))) (first | assumption | (simp [*, go_sem]; done)) (with_reducible refine R1.mono ?_; intro e w2 q0; unfold OrderYes at q0; obtain ⟨r, rfl, hB, hM, hr⟩ := q0; obtain ⟨j0, j1, j2, j3, j4⟩ := HJ.out _ hM)
  have hM := hM.undrew'
  have hA2 : MapIs w2 a s.ats := HH.out.ats.mod hM (by simp; exact ⟨fun e => n4 e.symm, fun e => (n7 a e).2.2.1 rfl⟩)
  obtain ⟨w3, hup, hA3, hM3, hsz3⟩ := run_update (P := Tryz.prog) Tryz.underlying55 Tryz.underlying3 hA2 (s.last + 1) (.agg #[i64 1, i64 0])
  have HA3 := Lib.hid hA3
  have HM3 := Lib.hid hM3
  have HB := Lib.hid hB
  have HM := Lib.hid hM
  have HR := Lib.hid hr
  clear hA2 hA3 hM3 hB hM hr R1
  go_wp2_with fail
  go_ret2
  have hma : Mod (c :: b :: a :: ob :: m.toList) w w3 := (HM.out.mono (by intro k hk; left; simp at hk ⊢; rcases hk with e | e; simp [e]; simp [e])).step HM3.out (by simp)
  have hrr : r ≠ c ∧ r ≠ b ∧ r ≠ a ∧ r ≠ ob := by
    rcases HR.out with e | ⟨_, e⟩
    · exact n7 r e
    · have e' : w.heap.size ≤ r := e
      have h1 := HH.out.lt
      have hc := h1 c (by simp)
      have hb := h1 b (by simp)
      have ha := h1 a (by simp)
      have hob := h1 ob (by simp)
      omega
  refine ⟨rfl, c :: b :: a :: ob :: (some r).toList, ⟨ob, oc, b, a, some r, rfl, ?_⟩, hma, ?_⟩
  · refine ⟨?_, ?_, ?_, ?_, ?_, nodup_of n1 n2 n3 n4 n5 n6 (fun r' hr' => by cases hr'; exact hrr)⟩
    · have hb : Blk w2 c (coordCells s ob oc b a) 57 := HH.out.blk.mod HM.out (by simp; exact ⟨n1, fun e => (n7 c e).1 rfl⟩)
      exact hb.mod HM3.out (by simpa using n2)
    · have hi : IA w2 ob 0 s.own := HH.out.own.mod HM.out (by simp; exact ⟨fun e => n5 e.symm, fun e => (n7 ob e).2.2.2 rfl⟩)
      exact hi.mod HM3.out (by simp; exact fun e => n6 e.symm)
    · exact Nat.lt_of_lt_of_le HH.out.obl hma.size
    · have hb := HB.out.mod HM3.out (by simpa using n4) (by intro r' hr'; cases hr'; simpa using hrr.2.2.1)
      rw [List.map_append]
      exact hb
    · have hk := ats_append s.L ⟨s.last + 1, part, s.own.getD part.toNat 0, dst, 1, 0⟩ (atKey_new _ _ (fun x hx => show x.mv < s.last + 1 by have := Hmv.out x hx; omega)) (.agg #[i64 1, i64 0]) rfl
      unfold St.ats
      rw [← hk]
      exact HA3.out
  · intro k hk
    simp at hk
    rcases hk with e | e | e | e | e
    · left; simp [e]
    · left; simp [e]
    · left; simp [e]
    · left; simp [e]
    · subst e
      rcases HR.out with e | ⟨_, e⟩
      · left; simp [e]
      · right; exact e

/-- Order's contract -/
theorem corder_calls (c : Nat) (F : List Nat) (s : St) (part dst : Int) (w : World) (h : CR w c F s)
    (hl : s.own.length ≤ 4096) (hf : s.last < 2147483647) (hf0 : 0 ≤ s.last) (hmv : ∀ x ∈ s.L, x.mv ≤ s.last) :
    Calls Tryz.prog 11 #[.pointer (some ⟨c, 0, none⟩), i64 part, i64 dst] w (CPost w c F (s.order part dst).1 (.tuple #[i64 (s.order part dst).2.1, i64 (s.order part dst).2.2])) := by
  unfold St.order
  have hd : Ext w w.drew := by (refine Mod.to_ext (S := []) ?_ (by simp); repeat (first | (with_reducible exact Mod.refl _ _) | (with_reducible assumption) | (with_reducible refine Mod.alloc ?_ _) | (with_reducible refine Mod.drew ?_) | (with_reducible refine Mod.drewN ?_ _)))
  by_cases hm : mayV s.ep s.n s.own part dst = 0
  · rw [if_neg (by simpa using hm)]
    cases ho : entOf (s.L.map Mv.ent) part with
    | none =>
      rw [if_neg (by simp)]
      exact order_yes c F s part dst w h hm ho hl hf hf0 hmv
    | some ent =>
      rw [if_pos (by simp)]
      exact order_no c F s part dst 20 w h (by decide) (fun ob oc b a m h => border_there b m s.last _ s.ep s.n ob 0 oc s.own part dst w.drew (h.book.ext hd) hl (h.own.ext hd) hm ent ho)
  · rw [if_pos (by simpa using hm)]
    exact order_no c F s part dst _ w h hm (fun ob oc b a m h => border_may b m s.last (s.L.map Mv.ent) s.ep s.n ob 0 oc s.own part dst w.drew hl (h.own.ext hd) hm)
end

section
def setAt (k st dn : Int) : List Mv → List Mv
  | [] => []
  | x :: L => if k = x.mv then { x with st := st, dn := dn } :: L else x :: setAt k st dn L

theorem setAt_put {k st dn : Int} : ∀ {L : List Mv}, (∃ x ∈ L, x.mv = k) →
    putKey k (.agg #[i64 st, i64 dn]) (L.map fun y => (y.mv, y.atv)) = (setAt k st dn L).map fun y => (y.mv, y.atv)
  | [], h => by obtain ⟨x, hx, _⟩ := h; cases hx
  | y :: L, h => by
    rw [List.map_cons, putKey, setAt]
    by_cases e : k = y.mv
    · rw [if_pos e, if_pos e]; rfl
    · rw [if_neg e, if_neg e, List.map_cons]
      obtain ⟨x, hx, hk⟩ := h
      rcases List.mem_cons.1 hx with e2 | hx
      · subst e2; exact (e hk.symm).elim
      · rw [setAt_put ⟨x, hx, hk⟩]

theorem setAt_ent (k st dn : Int) : ∀ (L : List Mv), (setAt k st dn L).map Mv.ent = L.map Mv.ent
  | [] => rfl
  | y :: L => by
    rw [setAt]
    split
    · rfl
    · rw [List.map_cons, List.map_cons, setAt_ent k st dn L]

theorem atKey_mem {L : List Mv} (hs : L.Pairwise (fun x y => x.mv < y.mv)) {x : Mv} (hx : x ∈ L) : atKey x.mv (L.map fun y => (y.mv, y.atv)) = some x.atv := by
  induction L with
  | nil => cases hx
  | cons y L ih =>
    rw [List.map_cons, atKey_cons]
    rw [List.pairwise_cons] at hs
    rcases List.mem_cons.1 hx with e | hx
    · subst e; rw [if_pos rfl]
    · have := hs.1 x hx
      rw [if_neg (by omega)]
      exact ih hs.2 hx

theorem field94 (x y : Int) (w : World) : (Instr.field 94 (.agg #[i64 x, i64 y]) 0).run Tryz.prog w = .ok (i64 x) w := by kernel_rfl

def St.byPart (s : St) (part : Int) : Option Mv := s.L.find? (fun x => x.part == part)

theorem entOf_byPart (s : St) (part : Int) : entOf (s.L.map Mv.ent) part = (s.byPart part).map Mv.ent := by
  unfold entOf St.byPart
  rw [List.find?_map]
  rfl

def St.abort (s : St) (part : Int) : St × Int :=
  if part < 0 ∨ (s.own.length : Int) ≤ part then (s, 21)
  else match s.byPart part with
    | none => (s, 4)
    | some x => if x.st = 1 then ({ s with L := setAt x.mv 3 0 s.L }, 0) else (s, 11)

theorem CRAt.ats_set {W w9 : World} {c : Nat} {s : St} {ob oc b a : Nat} {m : Option Nat} {L' : List Mv} (h : CRAt W c s ob oc b a m) (hM : Mod [a] W w9) (hA : MapIs w9 a (L'.map fun y => (y.mv, y.atv))) (he : L'.map Mv.ent = s.L.map Mv.ent) :
    CRAt w9 c { s with L := L' } ob oc b a m := by
  obtain ⟨n1, n2, n3, n4, n5, n6, n7⟩ := mem_nodup h.nd
  refine ⟨h.blk.mod hM (by simpa using n2), h.own.mod hM (by simp; exact fun e => n6 e.symm), Nat.lt_of_lt_of_le h.obl hM.size, ?_, hA, h.nd⟩
  have hb := h.book.mod hM (by simpa using n4) (fun r hr => by simpa using (n7 r hr).2.2.1)
  show BookIs w9 b m s.last (L'.map Mv.ent)
  rw [he]; exact hb

set_option maxRecDepth 100000 in
set_option maxHeartbeats 1600000 in
theorem cabort_calls (c : Nat) (F : List Nat) (s : St) (part : Int) (w : World) (h : CR w c F s) (hs : s.L.Pairwise (fun x y => x.mv < y.mv)) :
    Calls Tryz.prog 12 #[.pointer (some ⟨c, 0, none⟩), i64 part] w (CPost w c F (s.abort part).1 (i64 (s.abort part).2)) := by
  have hno := none_calls c F s w h
  have HH0 := Lib.hid h
  obtain ⟨ob, oc, b, a, m, rfl, h⟩ := h
  have R := of_calls b m s.last (s.L.map Mv.ent) part w h.book
  rw [entOf_byPart] at R
  have hlt := h.blk.lt
  obtain ⟨c0, f0⟩ := h.blk.read
  have k2 := c0 2
  have k3 := c0 3
  have k4 := c0 4
  simp only [coordCells, List.getElem?_cons_succ, List.getElem?_cons_zero] at k2 k3 k4
  have HS := Lib.hid hs
  have HH := Lib.hid h
  clear c0 f0 h hs
  by_cases hr : part < 0 ∨ (s.own.length : Int) ≤ part
  · have hv : s.abort part = (s, 21) := by unfold St.abort; rw [if_pos hr]
    rw [hv]
    clear hv
    generalize (Option.map Mv.ent (s.byPart part)) = oe at R
    go_enter Tryz.func12, Tryz.ntmps12
    go_wp2_with fail
    refine hno.mono ?_
    rintro e w1 ⟨rfl, rfl⟩
    go_wp2_with fail
    refine R.mono ?_
    intro e w2 q0
    unfold OfPost at q0
    obtain ⟨rfl, hE⟩ := q0
    have hb := bcell hE
    have j2 := (hb.1 c 2 hlt).trans k2
    have HE := Lib.hid hE
    have hcw : c < w2.heap.size := Nat.lt_of_lt_of_le hlt hE.size
    clear hb hE R k2 k3 k4
    unfold Ent.val
    by_cases h0 : part < 0
    · go_wp2_with fail
      go_ret
      refine ⟨rfl, CStep.same HH0.out (HE.out.trans ?_)⟩
      (refine Mod.to_ext (S := []) ?_ (by simp); repeat (first | (with_reducible exact Mod.refl _ _) | (with_reducible assumption) | (with_reducible refine Mod.alloc ?_ _) | (with_reducible refine Mod.drew ?_) | (with_reducible refine Mod.drewN ?_ _)))
    · have h1 : (s.own.length : Int) ≤ part := by omega
      go_wp2_with fail
      go_ret
      refine ⟨rfl, CStep.same HH0.out (HE.out.trans ?_)⟩
      (refine Mod.to_ext (S := []) ?_ (by simp); repeat (first | (with_reducible exact Mod.refl _ _) | (with_reducible assumption) | (with_reducible refine Mod.alloc ?_ _) | (with_reducible refine Mod.drew ?_) | (with_reducible refine Mod.drewN ?_ _)))
  · have hr0 : ¬ part < 0 := fun e => hr (.inl e)
    have hr1 : ¬ (s.own.length : Int) ≤ part := fun e => hr (.inr e)
    cases hx : s.byPart part with
    | none =>
      have hv : s.abort part = (s, 4) := by unfold St.abort; rw [if_neg hr, hx]
      rw [hv]
      rw [hx] at R
      clear hv hx hr
      go_enter Tryz.func12, Tryz.ntmps12
      go_wp2_with fail
      refine hno.mono ?_
      rintro e w1 ⟨rfl, rfl⟩
      go_wp2_with fail
      refine R.mono ?_
      intro e w2 q0
      unfold OfPost at q0
      obtain ⟨rfl, hE⟩ := q0
      have hb := bcell hE
      have j2 := (hb.1 c 2 hlt).trans k2
      have HE := Lib.hid hE
      have hcw : c < w2.heap.size := Nat.lt_of_lt_of_le hlt hE.size
      clear hb hE R k2 k3 k4
      simp only [Option.map_none, Option.getD_none, Option.isSome_none, zeroEnt, Ent.val]
      go_wp2_with fail
      go_ret
      refine ⟨rfl, CStep.same HH0.out (HE.out.trans ?_)⟩
      (refine Mod.to_ext (S := []) ?_ (by simp); repeat (first | (with_reducible exact Mod.refl _ _) | (with_reducible assumption) | (with_reducible refine Mod.alloc ?_ _) | (with_reducible refine Mod.drew ?_) | (with_reducible refine Mod.drewN ?_ _)))
    | some x =>
      have hxm : x ∈ s.L := List.mem_of_find?_eq_some hx
      have hak := atKey_mem HS.out hxm
      have hlk := run_look_some (P := Tryz.prog) Tryz.underlying55 Tryz.underlying3 HH.out.ats x.mv false hak
      rw [hx] at R
      have HX := Lib.hid hx
      have HXM := Lib.hid hxm
      clear hx hxm hak
      go_enter Tryz.func12, Tryz.ntmps12
      go_wp2_with fail
      refine hno.mono ?_
      rintro e w1 ⟨rfl, rfl⟩
      go_wp2_with fail
      refine R.mono ?_
      intro e w2 q0
      unfold OfPost at q0
      obtain ⟨rfl, hE⟩ := q0
      have hlk2 : (Instr.lookup 55 (.map (some a)) (i64 x.mv) false).run Tryz.prog ((w2.alloc (.cells #[i64 x.mv, i64 x.part, i64 x.fr, i64 x.dst] 96)).drew) = .ok x.atv ((w2.alloc (.cells #[i64 x.mv, i64 x.part, i64 x.fr, i64 x.dst] 96)).drew) := by
        have e3 : Ext w2 ((w2.alloc (.cells #[i64 x.mv, i64 x.part, i64 x.fr, i64 x.dst] 96)).drew) := by (refine Mod.to_ext (S := []) ?_ (by simp); repeat (first | (with_reducible exact Mod.refl _ _) | (with_reducible assumption) | (with_reducible refine Mod.alloc ?_ _) | (with_reducible refine Mod.drew ?_) | (with_reducible refine Mod.drewN ?_ _)))
        exact run_look_some (P := Tryz.prog) Tryz.underlying55 Tryz.underlying3 ((HH.out.ats.ext hE).ext e3) x.mv false (atKey_mem HS.out HXM.out)
      have hb := bcell hE
      have j2 := (hb.1 c 2 hlt).trans k2
      have j4 := (hb.1 c 4 hlt).trans k4
      have HE := Lib.hid hE
      have hcw : c < w2.heap.size := Nat.lt_of_lt_of_le hlt hE.size
      have hcn : ¬ c = w2.heap.size := by omega
      clear hb hE R k2 k3 k4 hlk
      simp only [Option.map_some, Option.getD_some, Option.isSome_some, Mv.ent, Ent.val]
      unfold Mv.atv at hlk2
      have hfd := field94
      go_wp2_with fail
      go_region_held3 (fun w' => w'.cell? ⟨c, 4, none⟩ = some (.map (some a)) ∧ w'.cell? ⟨w2.heap.size, 0, none⟩ = some (i64 x.mv)) (first | assumption | (simp [*, go_sem]; done)) (fail)
      have HX2 := HH.out.ext HE.out
      have e8 : Ext w2 (w2.alloc (.cells #[i64 x.mv, i64 x.part, i64 x.fr, i64 x.dst] 96)).drew := by (refine Mod.to_ext (S := []) ?_ (by simp); repeat (first | (with_reducible exact Mod.refl _ _) | (with_reducible assumption) | (with_reducible refine Mod.alloc ?_ _) | (with_reducible refine Mod.drew ?_) | (with_reducible refine Mod.drewN ?_ _)))
      have HX3 := Lib.hid (HX2.ext e8)
      have hE8 := Lib.hid (HE.out.trans e8)
      have hv : s.abort part = (if x.st = 1 then ({ s with L := setAt x.mv 3 0 s.L }, 0) else (s, 11)) := by
        unfold St.abort; rw [if_neg hr, HX.out]
      have HV := Lib.hid hv
      have r4 := (HX2.ext e8).blk.read.1 4
      have r0 := ((Blk.new w2 [i64 x.mv, i64 x.part, i64 x.fr, i64 x.dst] 96).drew).read.1 0
      simp only [coordCells, List.getElem?_cons_succ, List.getElem?_cons_zero] at r4 r0
      clear e8 HX2 hv hlk2 j2 j4
      revert HX3 hE8 r4 r0
      generalize hN : w2.heap.size = N
      generalize (w2.alloc (.cells #[i64 x.mv, i64 x.part, i64 x.fr, i64 x.dst] 96)).drew = W at *
      intro HX3 hE8 r4 r0
      by_cases h1 : x.st = 1
      · obtain ⟨w9, hup, hA9, hM9, hsz9⟩ := run_update (P := Tryz.prog) Tryz.underlying55 Tryz.underlying3 (show MapIs W.drew a s.ats from HX3.out.ats.same rfl) x.mv (.agg #[i64 3, i64 0])
        have h1b : (x.st != 1) = false := by simp [h1]
        have HA9 := Lib.hid hA9
        have HM9 := Lib.hid hM9
        have H1 := Lib.hid h1
        have s4 : w9.cell? ⟨c, 4, none⟩ = some (.map (some a)) := by
          have hc : Blk w9 c (coordCells s ob oc b a) 57 := Blk.mod (w := W.drew) HX3.out.blk hM9 (by simpa using (mem_nodup HH.out.nd).2.1)
          exact hc.read.1 4
        have s0 : w9.cell? ⟨N, 0, none⟩ = some (i64 x.mv) := by
          have hlta := HH.out.ats.lt
          have hw2 := HE.out.size
          exact (World.cell?_of_block (hM9.block N (World.block_lt_of_cell? W _ r0) (by simp; omega))).trans r0
        clear hA9 hM9 h1
        go_wp2_with fail
        go_region_held3 (fun w' => w'.cell? ⟨c, 4, none⟩ = some (.map (some a)) ∧ w'.cell? ⟨N, 0, none⟩ = some (i64 x.mv)) (first | assumption | (simp [*, go_sem]; done)) (fail)
        go_wp2_with fail
        go_ret
        rw [HV.out, if_pos H1.out]
        have hm9 : Mod [a] W w9 := HM9.out.undrew'
        have hk := setAt_put (k := x.mv) (st := 3) (dn := 0) ⟨x, HXM.out, rfl⟩
        have hA : MapIs w9 a ((setAt x.mv 3 0 s.L).map fun y => (y.mv, y.atv)) := by
          rw [← hk]; exact HA9.out
        refine ⟨rfl, c :: b :: a :: ob :: m.toList, ⟨ob, oc, b, a, m, rfl, HX3.out.ats_set hm9 hA (setAt_ent ..)⟩, ?_, fun _ hk => .inl hk⟩
        exact (Mod.of_ext hE8.out).step hm9 (by simp)
      · have H1 := Lib.hid h1
        have h1b : (x.st != 1) = true := by simpa using h1
        go_wp2_with fail
        go_ret
        rw [HV.out, if_neg H1.out]
        exact ⟨rfl, CStep.same HH0.out hE8.out⟩
end
end Go.Proofs.YtchmhkdnegngdaaGreat
