/- Maps with int keys: how they read (a list of pairs, in the order in which the keys came), and what each operation does. -/
import Derived.Test.YtchmhkdnegngdaaGreatGB
import Derived.Maps.OwnSet
import Derived.Maps.OwnOps
import Derived.Maps.RangeWalk
set_option linter.unusedVariables false
set_option linter.unusedSimpArgs false
namespace Go.Proofs.YtchmhkdnegngdaaGreat
open Go.RowKit

section
open Go.ChangeMaps (setBlock)

/-- the entries of a map's block, in their order -/
structure MapIs (w : World) (r : Nat) (al : List (Int × Value)) : Prop where
  ex : ∃ es clock, w.heap[r]? = some (.map es clock) ∧ es.toList.map (fun e => (e.key, e.val)) = al.map (fun p => (i64 p.1, p.2)) ∧
    (es.toList.map (·.born)).Nodup ∧ ∀ e ∈ es.toList, e.born < clock

theorem MapIs.lt {w : World} {r : Nat} {al : List (Int × Value)} (h : MapIs w r al) : r < w.heap.size := by
  obtain ⟨es, clock, hb, _⟩ := h.ex; exact lt_of_block hb

theorem MapIs.same {w w' : World} {r : Nat} {al : List (Int × Value)} (h : MapIs w r al) (hs : w'.heap[r]? = w.heap[r]?) : MapIs w' r al := by
  obtain ⟨es, clock, hb, k⟩ := h.ex; exact ⟨es, clock, hs.trans hb, k⟩

theorem MapIs.mod {S : List Nat} {w w' : World} {r : Nat} {al : List (Int × Value)} (h : MapIs w r al) (m : Mod S w w') (hr : r ∉ S) : MapIs w' r al :=
  h.same (m.block r h.lt hr)

theorem MapIs.ext {w w' : World} {r : Nat} {al : List (Int × Value)} (h : MapIs w r al) (m : Ext w w') : MapIs w' r al :=
  h.same (m.block r h.lt)

theorem MapIs.alloc {w : World} {r : Nat} {al : List (Int × Value)} (h : MapIs w r al) (o : Obj) : MapIs (w.alloc o) r al :=
  h.same (Below.heap_alloc w o r h.lt)

theorem MapIs.made (w : World) : MapIs (w.alloc (.map #[] 0)) w.heap.size [] :=
  ⟨#[], 0, heap_alloc_new w _, rfl, List.nodup_nil, by simp⟩

/-- where a key stands -/
def posOf (k : Int) : List (Int × Value) → Nat → Option (Nat × Value)
  | [], _ => none
  | (a, v) :: r, i => if k = a then some (i, v) else posOf k r (i + 1)

theorem findNow_int (k : Int) : ∀ (l : List MapEntry) (al : List (Int × Value)) (i : Nat),
    l.map (fun e => (e.key, e.val)) = al.map (fun p => (i64 p.1, p.2)) →
    Instr.findNow (.int .i64) (i64 k) l i = some (posOf k al i)
  | [], al, i, h => by
    cases al with
    | nil => rfl
    | cons p r => cases h
  | e :: es, al, i, h => by
    cases al with
    | nil => cases h
    | cons p r =>
      obtain ⟨a, v⟩ := p
      simp only [List.map_cons, List.cons.injEq, Prod.mk.injEq] at h
      obtain ⟨⟨h1, h2⟩, h3⟩ := h
      have ih := findNow_int k es r (i + 1) h3
      unfold Instr.findNow posOf
      rw [h1, h2, ih]
      by_cases hk : k = a
      · simp [Instr.sameNow, hk]
      · have : (k == a) = false := by simpa using hk
        simp [Instr.sameNow, this, hk]

theorem posOf_shift (k : Int) : ∀ (al : List (Int × Value)) (i : Nat), posOf k al i = (posOf k al 0).map (fun p => (p.1 + i, p.2))
  | [], i => rfl
  | (a, v) :: r, i => by
    unfold posOf
    split
    · simp
    · rw [posOf_shift k r (i + 1), posOf_shift k r (0 + 1)]
      cases posOf k r 0 <;> simp; omega

/-- what is at a key -/
def atKey (k : Int) (al : List (Int × Value)) : Option Value := (posOf k al 0).map (·.2)

@[simp] theorem atKey_nil (k : Int) : atKey k [] = none := rfl
theorem atKey_cons (k a : Int) (v : Value) (r : List (Int × Value)) : atKey k ((a, v) :: r) = if k = a then some v else atKey k r := by
  unfold atKey
  rw [posOf]
  split
  · rfl
  · rw [posOf_shift]; cases posOf k r 0 <;> rfl

def putKey (k : Int) (v : Value) : List (Int × Value) → List (Int × Value)
  | [] => [(k, v)]
  | (a, u) :: r => if k = a then (a, v) :: r else (a, u) :: putKey k v r

def delKey (k : Int) : List (Int × Value) → List (Int × Value)
  | [] => []
  | (a, u) :: r => if k = a then r else (a, u) :: delKey k r

theorem posOf_none {k : Int} (v : Value) {al : List (Int × Value)} : posOf k al 0 = none → putKey k v al = al ++ [(k, v)] ∧ delKey k al = al := by
  induction al with
  | nil => intro _; exact ⟨rfl, rfl⟩
  | cons p r ih =>
    obtain ⟨a, u⟩ := p
    intro h
    unfold posOf at h
    split at h
    · cases h
    · rename_i hne
      rw [posOf_shift] at h
      have h0 : posOf k r 0 = none := by cases hh : posOf k r 0 with | none => rfl | some x => rw [hh] at h; cases h
      obtain ⟨i1, i2⟩ := ih h0
      exact ⟨by simp [putKey, hne, i1], by simp [delKey, hne, i2]⟩

theorem posOf_some {k : Int} : ∀ {al : List (Int × Value)} {i : Nat} {u : Value}, posOf k al 0 = some (i, u) →
    i < al.length ∧ al[i]? = some (k, u) ∧ (∀ v, putKey k v al = al.set i (k, v)) ∧ delKey k al = al.eraseIdx i
  | [], i, u, h => by cases h
  | (a, x) :: r, i, u, h => by
    unfold posOf at h
    split at h
    · rename_i hk
      subst hk
      cases h
      exact ⟨by simp, rfl, fun v => by simp [putKey], by simp [delKey]⟩
    · rename_i hne
      rw [posOf_shift] at h
      cases hh : posOf k r 0 with
      | none => rw [hh] at h; cases h
      | some q =>
        obtain ⟨j, y⟩ := q
        rw [hh] at h
        cases h
        obtain ⟨h1, h2, h3, h4⟩ := posOf_some hh
        exact ⟨by simpa using h1, by simpa using h2, fun v => by simp [putKey, hne, h3 v], by simp [delKey, hne, h4]⟩

section
variable {P : Program} {t e : TypeId} (ht : P.underlying t = some (.map 3 e)) (h3 : P.underlying 3 = some (.int .i64))
include ht h3

theorem run_look_some {w : World} {r : Nat} {al : List (Int × Value)} (h : MapIs w r al) (k : Int) (c : Bool) {v : Value} (hv : atKey k al = some v) :
    (Instr.lookup t (.map (some r)) (i64 k) c).run P w = .ok (if c then .tuple #[v, .bool true] else v) w := by
  obtain ⟨es, clock, hb, hal, _⟩ := h.ex
  unfold atKey at hv
  obtain ⟨p, hp, rfl⟩ := Option.map_eq_some_iff.1 hv
  have hf := findNow_int k es.toList al 0 hal
  rw [hp] at hf
  simp [Instr.lookup, Sem.run_bind, run_underlying ht, Result.andThen, MapKept.run_getObj_map hb, MapKept.run_checkKey h3 (show MapKept.IsKey (.int .i64) (i64 k) from rfl), MapKept.run_findKey h3 hf]

theorem run_look_none {w : World} {r : Nat} {al : List (Int × Value)} (h : MapIs w r al) (k : Int) (c : Bool) {z : Value} (hz : (zeroValue e).run P w = .ok z w) (hv : atKey k al = none) :
    (Instr.lookup t (.map (some r)) (i64 k) c).run P w = .ok (if c then .tuple #[z, .bool false] else z) w := by
  obtain ⟨es, clock, hb, hal, _⟩ := h.ex
  unfold atKey at hv
  have hp : posOf k al 0 = none := by cases hh : posOf k al 0 with | none => rfl | some x => rw [hh] at hv; cases hv
  have hf := findNow_int k es.toList al 0 hal
  rw [hp] at hf
  simp [Instr.lookup, Sem.run_bind, run_underlying ht, Result.andThen, MapKept.run_getObj_map hb, MapKept.run_checkKey h3 (show MapKept.IsKey (.int .i64) (i64 k) from rfl), MapKept.run_findKey h3 hf, hz]

theorem run_look_nil (w : World) (k : Int) (c : Bool) {z : Value} (hz : (zeroValue e).run P w = .ok z w) :
    (Instr.lookup t (.map none) (i64 k) c).run P w = .ok (if c then .tuple #[z, .bool false] else z) w := by
  have hf : Instr.findNow (.int .i64) (i64 k) [] 0 = some none := rfl
  simp [Instr.lookup, Sem.run_bind, run_underlying ht, Result.andThen, MapKept.run_checkKey h3 (show MapKept.IsKey (.int .i64) (i64 k) from rfl), MapKept.run_findKey h3 hf, hz]


theorem run_update {w : World} {r : Nat} {al : List (Int × Value)} (h : MapIs w r al) (k : Int) (v : Value) :
    ∃ w', (Instr.mapUpdate t (.map (some r)) (i64 k) v).run P w = .ok () w' ∧ MapIs w' r (putKey k v al) ∧ Mod [r] w w' ∧ w'.heap.size = w.heap.size := by
  obtain ⟨es, clock, hb, hal, hn, hc⟩ := h.ex
  have hf := findNow_int k es.toList al 0 hal
  have hM : ∀ o, Mod [r] w (setBlock w r o) := fun o => ⟨rfl, rfl, rfl, by simp [setBlock], fun i _ hi => by
    show (w.heap.setIfInBounds r o)[i]? = _
    rw [Array.getElem?_setIfInBounds_ne (by simp at hi; omega)]⟩
  have hS : ∀ o, (setBlock w r o).heap[r]? = some o := fun o => (MapKept.heap_set hb).1
  cases hp : posOf k al 0 with
  | none =>
    rw [hp] at hf
    refine ⟨setBlock w r (.map (es.push { key := i64 k, val := v, born := clock }) (clock + 1)), ?_, ?_, hM _, by simp [setBlock]⟩
    · simp [Instr.mapUpdate, Sem.run_bind, run_underlying ht, Result.andThen, MapKept.run_getObj_map hb, MapKept.run_checkKey h3 (show MapKept.IsKey (.int .i64) (i64 k) from rfl), MapKept.run_findKey h3 hf, MapKept.run_setObj_map _ hb, setBlock]
    · refine ⟨_, _, hS _, ?_, ?_, ?_⟩
      · rw [(posOf_none v hp).1]; simp [hal]
      · simp only [Array.toList_push, List.map_append, List.map_cons, List.map_nil]
        rw [List.nodup_append]
        refine ⟨hn, by simp, ?_⟩
        intro x hx y hy
        simp at hy
        obtain ⟨e0, he0, rfl⟩ := List.mem_map.1 hx
        have := hc e0 he0
        omega
      · intro x hx
        simp at hx
        rcases hx with hx | rfl
        · have := hc x (by simpa using hx); omega
        · simp
  | some q =>
    obtain ⟨i, u⟩ := q
    rw [hp] at hf
    obtain ⟨hi, hat, hput, _⟩ := posOf_some hp
    have hlen : es.toList.length = al.length := by have := congrArg List.length hal; simpa using this
    have hie : i < es.size := by rw [← Array.length_toList, hlen]; exact hi
    have hkey : es[i].key = i64 k := by
      have h1 : (es.toList.map (fun e => (e.key, e.val)))[i]? = (al.map (fun p => (i64 p.1, p.2)))[i]? := by rw [hal]
      rw [List.getElem?_map, List.getElem?_map, hat] at h1
      simp [hie] at h1
      exact h1.1
    refine ⟨setBlock w r (.map (es.modify i fun e => { e with key := i64 k, val := v }) clock), ?_, ?_, hM _, by simp [setBlock]⟩
    · have hst : (Instr.keyThatStays (i64 k) (i64 k)).run P w = .ok (i64 k) w := by
        simp [Instr.keyThatStays, Instr.sameBits]
      simp [Instr.mapUpdate, Sem.run_bind, run_underlying ht, Result.andThen, MapKept.run_getObj_map hb, MapKept.run_checkKey h3 (show MapKept.IsKey (.int .i64) (i64 k) from rfl), MapKept.run_findKey h3 hf, MapKept.run_setObj_map _ hb, setBlock, hie, hkey, hst]
    · have hm : ∀ f : MapEntry → MapEntry, (es.modify i f).toList = es.toList.set i (f es[i]) := by
        intro f; rw [Array.toList_modify]; apply List.ext_getElem?; intro j; rw [List.getElem?_modify, List.getElem?_set]; by_cases hj : i = j
        · subst hj; simp [hie]
        · simp [hj]
      refine ⟨_, _, hS _, ?_, ?_, ?_⟩
      · rw [hput v, hm]
        rw [List.map_set, List.map_set, hal]
      · rw [hm, List.map_set]
        have : (es.toList.map (·.born)).set i es[i].born = es.toList.map (·.born) := by
          apply List.ext_getElem? ; intro j
          rw [List.getElem?_set]
          split
          · rename_i hj; subst hj; simp [hie]
          · rfl
        simpa [this] using hn
      · intro x hx
        rw [hm] at hx
        rcases List.mem_or_eq_of_mem_set hx with hx | rfl
        · exact hc x hx
        · exact hc es[i] (by simp)


theorem run_del {w : World} {r : Nat} {al : List (Int × Value)} (h : MapIs w r al) (k : Int) (ty : TypeId) :
    ∃ w', (Builtin.delete_ #[t, 3] ty #[.map (some r), i64 k]).run P w = .ok (.tuple #[]) w' ∧ MapIs w' r (delKey k al) ∧ Mod [r] w w' ∧ w'.heap.size = w.heap.size := by
  obtain ⟨es, clock, hb, hal, hn, hc⟩ := h.ex
  have hf := findNow_int k es.toList al 0 hal
  have hM : ∀ o, Mod [r] w (setBlock w r o) := fun o => ⟨rfl, rfl, rfl, by simp [setBlock], fun i _ hi => by
    show (w.heap.setIfInBounds r o)[i]? = _
    rw [Array.getElem?_setIfInBounds_ne (by simp at hi; omega)]⟩
  have hS : ∀ o, (setBlock w r o).heap[r]? = some o := fun o => (MapKept.heap_set hb).1
  cases hp : posOf k al 0 with
  | none =>
    rw [hp] at hf
    refine ⟨setBlock w r (.map es clock), ?_, ⟨_, _, hS _, ?_, hn, hc⟩, hM _, by simp [setBlock]⟩
    · simp [Builtin.delete_, Sem.run_bind, run_underlying ht, Result.andThen, MapKept.run_getObj_map hb, MapKept.run_checkKey h3 (show MapKept.IsKey (.int .i64) (i64 k) from rfl), MapKept.run_findKey h3 hf, MapKept.run_setObj_map _ hb, setBlock]
    · rw [(posOf_none (i64 0) hp).2]; exact hal
  | some q =>
    obtain ⟨i, u⟩ := q
    rw [hp] at hf
    obtain ⟨hi, hat, _, hdel⟩ := posOf_some hp
    have hlen : es.toList.length = al.length := by have := congrArg List.length hal; simpa using this
    have hie : i < es.size := by rw [← Array.length_toList, hlen]; exact hi
    have he : (es.eraseIdxIfInBounds i).toList = es.toList.eraseIdx i := by
      unfold Array.eraseIdxIfInBounds; rw [dif_pos hie]; simp
    refine ⟨setBlock w r (.map (es.eraseIdxIfInBounds i) clock), ?_, ⟨_, _, hS _, ?_, ?_, ?_⟩, hM _, by simp [setBlock]⟩
    · simp [Builtin.delete_, Sem.run_bind, run_underlying ht, Result.andThen, MapKept.run_getObj_map hb, MapKept.run_checkKey h3 (show MapKept.IsKey (.int .i64) (i64 k) from rfl), MapKept.run_findKey h3 hf, MapKept.run_setObj_map _ hb, setBlock]
    · rw [hdel, he, Go.ChangeMaps.map_eraseIdx, Go.ChangeMaps.map_eraseIdx, hal]
    · rw [he]; exact ((List.eraseIdx_sublist _ _).map _).nodup hn
    · intro x hx; rw [he] at hx; exact hc x (List.mem_of_mem_eraseIdx hx)

end

/-! ### ranging -/

/-- an iterator over a map that stands: what is left (the values) -/
structure Iter (w : World) (it r : Nat) (al : List (Int × Value)) (left : List Value) : Prop where
  ex : ∃ es clock seen, w.heap[r]? = some (.map es clock) ∧ w.heap[it]? = some (.mapIter (some r) clock seen clock) ∧
    es.toList.map (fun e => (e.key, e.val)) = al.map (fun p => (i64 p.1, p.2)) ∧
    (es.toList.map (·.born)).Nodup ∧ (∀ e ∈ es.toList, e.born < clock) ∧ left = (leftOf es seen).toList.map (·.val)

/-- .. behind a step that handed out v -/
structure IterAt (w : World) (it r : Nat) (al : List (Int × Value)) (v : Value) (left : List Value) : Prop where
  iter : Iter w it r al left
  entry : ∀ P : Program, ∃ k, (Instr.entry (.pointer (some ⟨it, 0, none⟩))).run P w = .ok (.tuple #[k, v]) w

theorem Iter.map {w : World} {it r : Nat} {al : List (Int × Value)} {left : List Value} (h : Iter w it r al left) : MapIs w r al := by
  obtain ⟨es, clock, seen, hb, _, hal, hn, hc, _⟩ := h.ex
  exact ⟨es, clock, hb, hal, hn, hc⟩

theorem Iter.ltIt {w : World} {it r : Nat} {al : List (Int × Value)} {left : List Value} (h : Iter w it r al left) : it < w.heap.size := by
  obtain ⟨es, clock, seen, _, hi, _⟩ := h.ex
  exact lt_of_block hi

theorem Iter.same {w w' : World} {it r : Nat} {al : List (Int × Value)} {left : List Value} (h : Iter w it r al left)
    (h1 : w'.heap[r]? = w.heap[r]?) (h2 : w'.heap[it]? = w.heap[it]?) : Iter w' it r al left := by
  obtain ⟨es, clock, seen, hb, hi, k⟩ := h.ex
  exact ⟨es, clock, seen, h1.trans hb, h2.trans hi, k⟩

theorem Iter.mod {S : List Nat} {w w' : World} {it r : Nat} {al : List (Int × Value)} {left : List Value} (h : Iter w it r al left) (m : Mod S w w')
    (hr : r ∉ S) (hi : it ∉ S) : Iter w' it r al left :=
  h.same (m.block r h.map.lt hr) (m.block it h.ltIt hi)

/-- how many are left -/
def leftN (w : World) (it r : Nat) : Nat :=
  match w.heap[r]?, w.heap[it]? with
  | some (.map es _), some (.mapIter _ _ seen _) => (leftOf es seen).size
  | _, _ => 0

theorem Iter.leftN {w : World} {it r : Nat} {al : List (Int × Value)} {left : List Value} (h : Iter w it r al left) : leftN w it r = left.length := by
  obtain ⟨es, clock, seen, hb, hi, _, _, _, hl⟩ := h.ex
  rw [hl]
  simp [Go.Proofs.YtchmhkdnegngdaaGreat.leftN, hb, hi]

theorem run_range {P : Program} {t e : TypeId} (ht : P.underlying t = some (.map 3 e)) {w : World} {r : Nat} {al : List (Int × Value)} (h : MapIs w r al) :
    ∃ w', (Instr.range t (.map (some r))).run P w = .ok (.pointer (some ⟨w.heap.size, 0, none⟩)) w' ∧ Iter w' w.heap.size r al (al.map (·.2)) ∧ Ext w w' ∧ w'.heap.size = w.heap.size + 1 := by
  obtain ⟨es, clock, hb, hal, hn, hc⟩ := h.ex
  refine ⟨w.alloc (.mapIter (some r) clock #[] clock), ?_, ?_, (Below.refl _ _).alloc (Nat.le_refl _) _, by simp⟩
  · simp [Instr.range, Sem.run_bind, run_underlying ht, Result.andThen, MapKept.run_getObj_map hb]
  · refine ⟨es, clock, #[], (Below.heap_alloc w _ r (lt_of_block hb)).trans hb, heap_alloc_new w _, hal, hn, hc, ?_⟩
    have : (leftOf es #[]).toList = es.toList := by simp [leftOf]
    rw [this]
    have h2 := congrArg (List.map Prod.snd) hal
    rw [List.map_map, List.map_map] at h2
    exact h2.symm

theorem perm_pick {l : List MapEntry} (hn : (l.map (·.born)).Nodup) {e : MapEntry} (he : e ∈ l) :
    l.Perm (e :: l.filter (fun x => x.born != e.born)) := by
  induction l with
  | nil => cases he
  | cons a r ih =>
    simp only [List.map_cons, List.nodup_cons] at hn
    rcases List.mem_cons.1 he with rfl | he'
    · have : (e :: r).filter (fun x => x.born != e.born) = r := by
        rw [List.filter_cons]; simp
        intro x hx hb
        exact hn.1 (hb ▸ List.mem_map_of_mem hx)
      rw [this]
    · have hne : a.born ≠ e.born := fun hb => hn.1 (hb ▸ List.mem_map_of_mem he')
      rw [List.filter_cons]
      simp [hne]
      exact ((ih hn.2 he').cons a).trans (List.Perm.swap _ _ _)

theorem leftOf_push (es : Array MapEntry) (seen : Array Nat) (b : Nat) : (leftOf es (seen.push b)).toList = (leftOf es seen).toList.filter (fun x => x.born != b) := by
  simp only [leftOf, Array.toList_filter, List.filter_filter]
  apply List.filter_congr
  intro x _
  simp [bne, Bool.and_comm]
  by_cases h : x.born = b <;> simp [h]

theorem run_next (P : Program) {w : World} {it r : Nat} {al : List (Int × Value)} {left : List Value} (h : Iter w it r al left) (hne : it ≠ r) :
    (left = [] ∧ ∀ ty, (Instr.next (.pointer (some ⟨it, 0, none⟩)) false ty).run P w = .ok (.tuple #[.bool false]) w) ∨
    ∃ k v left' w', (∀ ty, (Instr.next (.pointer (some ⟨it, 0, none⟩)) false ty).run P w = .ok (.tuple #[.bool true, k, v]) w') ∧ left.Perm (v :: left') ∧
      IterAt w' it r al v left' ∧ Mod [it] w w' ∧ w'.heap.size = w.heap.size := by
  obtain ⟨es, clock, seen, hb, hi, hal, hn, hc, rfl⟩ := h.ex
  have hty : ∀ ty, Instr.next (.pointer (some ⟨it, 0, none⟩)) false ty = Instr.next (.pointer (some ⟨it, 0, none⟩)) false 0 := fun _ => rfl
  rcases run_next_at (P := P) w 0 it r clock clock seen es clock hi hb hc (Nat.le_refl _) with ⟨h0, hrun⟩ | ⟨e, he, w1, hw1, hrun⟩
  · left
    refine ⟨?_, fun ty => by rw [hty]; exact hrun⟩
    have : (leftOf es seen).toList = [] := by
      apply List.eq_nil_of_length_eq_zero; simpa using h0
    rw [this]; rfl
  · right
    have hmem : e ∈ es.toList := by simp [leftOf] at he; simpa using he.1
    have hb1 : w1.heap[r]? = some (.map es clock) := by rcases hw1 with rfl | rfl <;> exact hb
    have hi1 : w1.heap[it]? = some (.mapIter (some r) clock seen clock) := by rcases hw1 with rfl | rfl <;> exact hi
    have hb2 : (setBlock w1 it (.mapIter (some r) clock (seen.push e.born) clock)).heap[r]? = some (.map es clock) := by
      show (w1.heap.setIfInBounds it _)[r]? = _
      rw [Array.getElem?_setIfInBounds_ne hne]; exact hb1
    have hi2 : (setBlock w1 it (.mapIter (some r) clock (seen.push e.born) clock)).heap[it]? = some (.mapIter (some r) clock (seen.push e.born) clock) := by
      show (w1.heap.setIfInBounds it _)[it]? = _
      exact (MapKept.heap_set hi1).1
    refine ⟨e.key, e.val, ((leftOf es (seen.push e.born)).toList.map (·.val)), _, fun ty => by rw [hty]; exact hrun, ?_, ⟨⟨es, clock, _, hb2, hi2, hal, hn, hc, rfl⟩, ?_⟩, ?_, ?_⟩
    · rw [leftOf_push]
      have hnl : ((leftOf es seen).toList.map (·.born)).Nodup := by
        have : (leftOf es seen).toList = es.toList.filter (fun e => !seen.contains e.born) := by simp [leftOf]
        rw [this]; exact (List.filter_sublist.map _).nodup hn
      exact (perm_pick hnl he).map _
    · intro P'
      exact ⟨e.key, run_entry_at _ it r clock seen es clock e hi2 hb2 hmem hn⟩
    · refine ⟨?_, ?_, ?_, ?_, ?_⟩
      · rcases hw1 with rfl | rfl <;> rfl
      · rcases hw1 with rfl | rfl <;> rfl
      · rcases hw1 with rfl | rfl <;> rfl
      · simp only [setBlock, Array.size_setIfInBounds]; rcases hw1 with h | h <;> rw [h] <;> exact Nat.le_refl _
      · intro k _ hk
        show (w1.heap.setIfInBounds it _)[k]? = _
        rw [Array.getElem?_setIfInBounds_ne (by simp at hk; omega)]
        rcases hw1 with rfl | rfl <;> rfl
    · simp only [setBlock, Array.size_setIfInBounds]; rcases hw1 with h | h <;> rw [h] <;> rfl
end
end Go.Proofs.YtchmhkdnegngdaaGreat
