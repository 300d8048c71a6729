/- A coordinator: its state as plain data, how it lies in memory; none, moves.New, New. -/
import Derived.Test.YtchmhkdnegngdaaGreatT2
import Derived.Test.YtchmhkdnegngdaaGreatTe
set_option linter.unusedVariables false
set_option linter.unusedSimpArgs false
namespace Go.Proofs.YtchmhkdnegngdaaGreat
open Go.RowKit


/-- a move: number, shard, from, to, state, who knows -/
structure Mv where
  mv : Int
  part : Int
  fr : Int
  dst : Int
  st : Int
  dn : Int
deriving DecidableEq

def Mv.ent (x : Mv) : Ent := ⟨x.mv, x.part, x.fr, x.dst⟩
def Mv.atv (x : Mv) : Value := .agg #[i64 x.st, i64 x.dn]

/-- a coordinator's state -/
structure St where
  ep : Int
  n : Int
  own : List Int
  L : List Mv
  last : Int
  com : Int
  ab : Int

/-- the table of states -/
def St.ats (s : St) : List (Int × Value) := s.L.map (fun x => (x.mv, x.atv))

def coordCells (s : St) (ob oc b a : Nat) : List Value :=
  [i64 s.ep, i64 s.n, .slice (some ⟨ob, 0, none⟩) s.own.length oc, .pointer (some ⟨b, 0, none⟩), .map (some a), i64 s.com, i64 s.ab]

/-- a coordinator in memory: its block, its footprint, its state -/
structure CRAt (w : World) (c : Nat) (s : St) (ob oc b a : Nat) (m : Option Nat) : Prop where
  blk : Blk w c (coordCells s ob oc b a) 57
  own : IA w ob 0 s.own
  obl : ob < w.heap.size
  book : BookIs w b m s.last (s.L.map Mv.ent)
  ats : MapIs w a s.ats
  nd : (c :: b :: a :: ob :: m.toList).Nodup

def CR (w : World) (c : Nat) (F : List Nat) (s : St) : Prop :=
  ∃ ob oc b a m, F = c :: b :: a :: ob :: m.toList ∧ CRAt w c s ob oc b a m

theorem CRAt.mod {S : List Nat} {w w' : World} {c : Nat} {s : St} {ob oc b a : Nat} {m : Option Nat} (h : CRAt w c s ob oc b a m) (e : Mod S w w') (hs : ∀ k ∈ c :: b :: a :: ob :: m.toList, k ∉ S) : CRAt w' c s ob oc b a m :=
  ⟨h.blk.mod e (hs _ (by simp)), h.own.mod e (hs _ (by simp)), Nat.lt_of_lt_of_le h.obl e.size, h.book.mod e (hs _ (by simp)) (fun r hr => hs _ (by simp [hr])), h.ats.mod e (hs _ (by simp)), h.nd⟩

theorem CRAt.ext {w w' : World} {c : Nat} {s : St} {ob oc b a : Nat} {m : Option Nat} (h : CRAt w c s ob oc b a m) (e : Ext w w') : CRAt w' c s ob oc b a m :=
  h.mod (S := []) (Mod.of_ext e) (by simp)

theorem CRAt.lt {w : World} {c : Nat} {s : St} {ob oc b a : Nat} {m : Option Nat} (h : CRAt w c s ob oc b a m) : ∀ k ∈ c :: b :: a :: ob :: m.toList, k < w.heap.size := by
  intro k hk
  simp only [List.mem_cons, Option.mem_toList] at hk
  rcases hk with e | e | e | e | e
  · rw [e]; exact h.blk.lt
  · rw [e]; exact h.book.blk.lt
  · rw [e]; exact h.ats.lt
  · rw [e]; exact h.obl
  · exact (h.book.msome k e).lt

theorem CR.mod {S : List Nat} {w w' : World} {c : Nat} {F : List Nat} {s : St} (h : CR w c F s) (e : Mod S w w') (hs : ∀ k ∈ F, k ∉ S) : CR w' c F s := by
  obtain ⟨ob, oc, b, a, m, rfl, h⟩ := h
  exact ⟨ob, oc, b, a, m, rfl, h.mod e hs⟩
theorem CR.ext {w w' : World} {c : Nat} {F : List Nat} {s : St} (h : CR w c F s) (e : Ext w w') : CR w' c F s := h.mod (S := []) (Mod.of_ext e) (by simp)
theorem CR.lt {w : World} {c : Nat} {F : List Nat} {s : St} (h : CR w c F s) : ∀ k ∈ F, k < w.heap.size := by
  obtain ⟨ob, oc, b, a, m, rfl, h⟩ := h
  exact h.lt
theorem CR.mem {w : World} {c : Nat} {F : List Nat} {s : St} (h : CR w c F s) : c ∈ F := by
  obtain ⟨ob, oc, b, a, m, rfl, h⟩ := h
  simp

/-- a step of a coordinator from footprint F to state s' -/
def CStep (w : World) (c : Nat) (F : List Nat) (s' : St) (w' : World) : Prop :=
  ∃ F', CR w' c F' s' ∧ Mod F w w' ∧ ∀ k ∈ F', k ∈ F ∨ w.heap.size ≤ k

theorem CStep.same {w w' : World} {c : Nat} {F : List Nat} {s : St} (h : CR w c F s) (e : Ext w w') : CStep w c F s w' :=
  ⟨F, h.ext e, Mod.of_ext e, fun _ hk => .inl hk⟩

theorem none_calls (c : Nat) (F : List Nat) (s : St) (w : World) (h : CR w c F s) :
    Calls Tryz.prog 42 #[.pointer (some ⟨c, 0, none⟩)] w (fun e w' => e = .returned (.bool false) ∧ w = w') := by
  obtain ⟨ob, oc, b, a, m, rfl, h⟩ := h
  obtain ⟨c0, f0⟩ := h.blk.read
  have c1 := c0 1
  have c3 := c0 3
  simp only [coordCells, List.getElem?_cons_succ, List.getElem?_cons_zero] at c1 c3
  clear c0 h
  go_enter Tryz.func42, Tryz.ntmps42
  go_wp2_with fail
  go_ret
  exact ⟨rfl, rfl⟩

theorem bnew_calls (w : World) : Calls Tryz.prog 41 #[] w (fun e w' => e = .returned (.pointer (some ⟨w.heap.size, 0, none⟩)) ∧ w.alloc (.cells #[.map none, i64 0] 118) = w') := by
  go_enter Tryz.func41, Tryz.ntmps41
  go_wp2_with fail
  go_ret
  exact ⟨rfl, rfl⟩

/-- a new coordinator's state -/
def St.new (ep n : Int) (own : List Int) : St := ⟨ep, n, own, [], 0, 0, 0⟩

def NewPost (s : St) (w : World) (e : Ending) (w' : World) : Prop :=
  ∃ c F, e = .returned (.tuple #[.pointer (some ⟨c, 0, none⟩), i64 0]) ∧ CR w' c F s ∧ (∀ k ∈ F, w.heap.size ≤ k) ∧ Ext w w'

set_option maxRecDepth 100000 in
theorem cnew_calls (ep n : Int) (b off cap : Nat) (xs : List Int) (w : World) (hl : xs.length ≤ 4096) (hx : IA w b off xs) (hr : rightB ep n xs = true) :
    Calls Tryz.prog 9 #[.agg #[i64 ep, i64 n, .slice (some ⟨b, off, none⟩) xs.length cap]] w (NewPost (St.new ep n xs) w) := by
  obtain ⟨_, _, _, hr4, hr5, _⟩ := rightB_true hr
  have hmm := @run_makeMap Tryz.prog
  have e1 : Ext w (w.alloc (.cells #[i64 ep, i64 n, .slice (some ⟨b, off, none⟩) xs.length cap] 28)) := by (refine Mod.to_ext (S := []) ?_ (by simp); repeat (first | (with_reducible exact Mod.refl _ _) | (with_reducible assumption) | (with_reducible refine Mod.alloc ?_ _) | (with_reducible refine Mod.drew ?_) | (with_reducible refine Mod.drewN ?_ _)))
  have R := right_calls ep n b off cap xs _ hl (hx.ext e1)
  rw [hr] at R
  have HE1 := Lib.hid e1
  clear e1
  go_enter Tryz.func9, Tryz.ntmps9
  go_wp2_with fail
  refine R.mono ?_
  rintro e w1 ⟨rfl, rfl⟩
  go_wp2_with fail
  have e2 : Ext w ((w.alloc (.cells #[i64 ep, i64 n, .slice (some ⟨b, off, none⟩) xs.length cap] 28)).alloc (.cells #[i64 ep, i64 n, .slice (some ⟨b, off, none⟩) xs.length cap] 28)) := by (refine Mod.to_ext (S := []) ?_ (by simp); repeat (first | (with_reducible exact Mod.refl _ _) | (with_reducible assumption) | (with_reducible refine Mod.alloc ?_ _) | (with_reducible refine Mod.drew ?_) | (with_reducible refine Mod.drewN ?_ _)))
  refine (copy_calls ep n b off cap xs _ hl (hx.ext e2) (by omega)).mono ?_
  intro e w3 q0
  unfold NewTable at q0
  obtain ⟨g, gc, rfl, ho, hE3⟩ := q0
  obtain ⟨g', gc', heq, hg0, hg1, hI, _⟩ := ownsRow_IA ho (by omega)
  have hgg : g = g' := by injection heq with h1 _ _; injection h1 with h1; injection h1 with h1
  subst hgg
  have hsz := hE3.size
  simp only [World.size_alloc] at hsz hg0
  have HI := Lib.hid hI
  have HE3 := Lib.hid (e2.trans hE3)
  clear hI hE3 e2 ho heq R hx
  go_wp2_with fail
  refine (bnew_calls w3).mono ?_
  rintro e w4 ⟨rfl, rfl⟩
  go_wp2_with fail
  go_ret2
  have eW : Ext w3 (((w3.alloc (.cells #[.map none, i64 0] 118)).alloc (.map #[] 0)).alloc (.cells #[i64 ep, i64 n, .slice (some ⟨g, 0, none⟩) xs.length gc, .pointer (some ⟨w3.heap.size, 0, none⟩), .map (some (w3.heap.size + 1)), i64 0, i64 0] 57)) := by (refine Mod.to_ext (S := []) ?_ (by simp); repeat (first | (with_reducible exact Mod.refl _ _) | (with_reducible assumption) | (with_reducible refine Mod.alloc ?_ _) | (with_reducible refine Mod.drew ?_) | (with_reducible refine Mod.drewN ?_ _)))
  unfold NewPost
  refine ⟨w3.heap.size + 1 + 1, [w3.heap.size + 1 + 1, w3.heap.size, w3.heap.size + 1, g], rfl, ⟨g, gc, w3.heap.size, w3.heap.size + 1, none, rfl, ?_⟩, ?_, HE3.out.trans eW⟩
  · refine ⟨Blk.at _ _ 57 _ (by simp), HI.out.ext eW, by simp; omega, ⟨((Blk.new w3 [.map none, i64 0] 118).old _).old _, fun _ => rfl, fun r hr => (by cases hr)⟩, ?_, by simp; omega⟩
    have hm := MapIs.made (w3.alloc (.cells #[.map none, i64 0] 118))
    simp only [World.size_alloc] at hm
    exact hm.alloc _
  · intro k hk
    simp at hk
    omega
end Go.Proofs.YtchmhkdnegngdaaGreat
