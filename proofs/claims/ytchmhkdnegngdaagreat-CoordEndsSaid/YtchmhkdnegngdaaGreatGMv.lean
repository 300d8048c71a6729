/- Package moves: entries, their order, sorting. -/
import Derived.Test.YtchmhkdnegngdaaGreatGMp
import Derived.Test.YtchmhkdnegngdaaGreatGEn
set_option linter.unusedVariables false
set_option linter.unusedSimpArgs false
namespace Go.Proofs.YtchmhkdnegngdaaGreat
open Go.RowKit

section
def Ent.cells (e : Ent) : List Value := [i64 e.mv, i64 e.part, i64 e.fr, i64 e.dst]
def Ent.val (e : Ent) : Value := .agg #[i64 e.mv, i64 e.part, i64 e.fr, i64 e.dst]

theorem isNaN_calls (x : Int) (w : World) : Calls Tryz.prog 78 #[i64 x] w fun e w' => e = .returned (.bool false) ∧ w = w' := by
  go_enter Tryz.func78, Tryz.ntmps78
  go_wp2
  go_ret
  exact ⟨by simp, rfl⟩

def cmpV (x y : Int) : Int := if x < y then -1 else if y < x then 1 else 0

theorem compare_calls (x y : Int) (w : World) : Calls Tryz.prog 63 #[i64 x, i64 y] w fun e w' => e = .returned (i64 (cmpV x y)) ∧ w = w' := by
  by_cases h1 : x < y
  · have hv : cmpV x y = -1 := by simp [cmpV, h1]
    have H := Lib.hid hv; clear hv
    go_enter Tryz.func63, Tryz.ntmps63
    go_wp2_with (go_at_call 78; refine (isNaN_calls _ _).mono ?_; rintro e w' ⟨rfl, rfl⟩)
    go_ret
    exact ⟨by rw [H.out]; rfl, rfl⟩
  by_cases h2 : y < x
  · have hv : cmpV x y = 1 := by simp [cmpV, h1, h2]
    have H := Lib.hid hv; clear hv
    go_enter Tryz.func63, Tryz.ntmps63
    go_wp2_with (go_at_call 78; refine (isNaN_calls _ _).mono ?_; rintro e w' ⟨rfl, rfl⟩)
    go_ret
    exact ⟨by rw [H.out]; rfl, rfl⟩
  · have hv : cmpV x y = 0 := by simp [cmpV, h1, h2]
    have H := Lib.hid hv; clear hv
    go_enter Tryz.func63, Tryz.ntmps63
    go_wp2_with (go_at_call 78; refine (isNaN_calls _ _).mono ?_; rintro e w' ⟨rfl, rfl⟩)
    go_ret
    exact ⟨by rw [H.out]; rfl, rfl⟩

theorem all1_calls (x y : Ent) (w : World) : Calls Tryz.prog 62 #[x.val, y.val] w fun e w' => e = .returned (i64 (cmpV x.mv y.mv)) ∧ Ext w w' := by
  unfold Ent.val
  go_enter Tryz.func62, Tryz.ntmps62
  go_wp2_with (go_at_call 63; refine (compare_calls _ _ _).mono ?_; rintro e w' ⟨rfl, rfl⟩)
  go_ret
  exact ⟨rfl, by (refine Mod.to_ext (S := []) ?_ (by simp); repeat (first | (with_reducible exact Mod.refl _ _) | (with_reducible assumption) | (with_reducible refine Mod.alloc ?_ _) | (with_reducible refine Mod.drew ?_) | (with_reducible refine Mod.drewN ?_ _)))⟩


/-- a row of entries in a block of its own -/
def EB (w : World) (g cap : Nat) (es : List Ent) : Prop :=
  ∃ cur : Array Value, w.heap[g]? = some (.cells cur 96 (0, 0)) ∧ cur.size = cap * 4 ∧ es.length ≤ cap ∧ cur.toList.take (es.length * 4) = es.flatMap Ent.cells

theorem EB.lt {w : World} {g cap : Nat} {es : List Ent} (h : EB w g cap es) : g < w.heap.size := by
  obtain ⟨cur, hb, _⟩ := h; exact lt_of_block hb

theorem EB.same {w w' : World} {g cap : Nat} {es : List Ent} (h : EB w g cap es) (hs : w'.heap[g]? = w.heap[g]?) : EB w' g cap es := by
  obtain ⟨cur, hb, r⟩ := h; exact ⟨cur, hs.trans hb, r⟩

theorem EB.drew {w : World} {g cap : Nat} {es : List Ent} (h : EB w g cap es) : EB w.drew g cap es := h
theorem EB.drewN {w : World} {g cap : Nat} {es : List Ent} (h : EB w g cap es) (n : Nat) : EB (w.drewN n) g cap es := h

theorem EB.mod {S : List Nat} {w w' : World} {g cap : Nat} {es : List Ent} (h : EB w g cap es) (m : Mod S w w') (hg : g ∉ S) : EB w' g cap es :=
  h.same (m.block g h.lt hg)

theorem EB.ext {w w' : World} {g cap : Nat} {es : List Ent} (h : EB w g cap es) (m : Ext w w') : EB w' g cap es :=
  h.same (m.block g h.lt)

theorem EB.frozen {w : World} {g cap : Nat} {es : List Ent} (h : EB w g cap es) (o : Nat) : w.frozen? ⟨g, o, none⟩ = false := by
  obtain ⟨cur, hb, _⟩ := h; simp [World.frozen?, hb]

theorem flatMap_cells_get (es : List Ent) : ∀ (i t : Nat), t < 4 → (es.flatMap Ent.cells)[i * 4 + t]? = (es[i]?).bind (fun e => e.cells[t]?) := by
  induction es with
  | nil => intro i t _; simp
  | cons a r ih =>
    intro i t ht
    have hl : a.cells.length = 4 := rfl
    rw [List.flatMap_cons]
    cases i with
    | zero =>
      rw [List.getElem?_append_left (by omega)]
      simp
    | succ i =>
      rw [List.getElem?_append_right (by omega)]
      have : (i + 1) * 4 + t - a.cells.length = i * 4 + t := by omega
      rw [this, ih i t ht]
      simp

theorem EB.cell {w : World} {g cap : Nat} {es : List Ent} (h : EB w g cap es) (i t : Nat) (hi : i < es.length) (ht : t < 4) :
    w.cell? ⟨g, i * 4 + t, none⟩ = (es[i]).cells[t]? := by
  obtain ⟨cur, hb, hs, hc, htk⟩ := h
  have h1 : (cur.toList.take (es.length * 4))[i * 4 + t]? = (es.flatMap Ent.cells)[i * 4 + t]? := by rw [htk]
  rw [flatMap_cells_get es i t ht, List.getElem?_take, if_pos (by omega)] at h1
  simp only [World.cell?, hb, Option.isSome_none, Bool.false_eq_true, if_false]
  rw [← Array.getElem?_toList, h1, List.getElem?_eq_getElem hi]; rfl

theorem EB.cells {w : World} {g cap : Nat} {es : List Ent} (h : EB w g cap es) (i : Nat) (hi : i < es.length) :
    w.cell? ⟨g, i * 4, none⟩ = some (i64 (es[i]).mv) ∧ w.cell? ⟨g, i * 4 + 1, none⟩ = some (i64 (es[i]).part) ∧
    w.cell? ⟨g, i * 4 + 2, none⟩ = some (i64 (es[i]).fr) ∧ w.cell? ⟨g, i * 4 + 3, none⟩ = some (i64 (es[i]).dst) :=
  ⟨h.cell i 0 hi (by omega), h.cell i 1 hi (by omega), h.cell i 2 hi (by omega), h.cell i 3 hi (by omega)⟩

theorem cellsFlat_set : ∀ (ys : List Ent) (i : Nat) (e : Ent), i < ys.length →
    ((((ys.flatMap Ent.cells).set (i * 4) (i64 e.mv)).set (i * 4 + 1) (i64 e.part)).set (i * 4 + 2) (i64 e.fr)).set (i * 4 + 3) (i64 e.dst) = (ys.set i e).flatMap Ent.cells
  | [], i, e, h => by cases h
  | a :: r, 0, e, h => by
    simp [List.flatMap_cons, Ent.cells]
  | a :: r, i + 1, e, h => by
    have ih := cellsFlat_set r i e (by simpa using h)
    have hl : a.cells.length = 4 := rfl
    simp only [List.flatMap_cons, List.set_cons_succ]
    rw [← ih]
    rw [List.set_append_right (h := by omega), List.set_append_right (h := by omega), List.set_append_right (h := by omega), List.set_append_right (h := by omega)]
    rw [hl]
    have e0 : (i + 1) * 4 - 4 = i * 4 := by omega
    have e1 : (i + 1) * 4 + 1 - 4 = i * 4 + 1 := by omega
    have e2 : (i + 1) * 4 + 2 - 4 = i * 4 + 2 := by omega
    have e3 : (i + 1) * 4 + 3 - 4 = i * 4 + 3 := by omega
    rw [e0, e1, e2, e3]

theorem EB.put {w : World} {g cap : Nat} {ys : List Ent} (h : EB w g cap ys) (i : Nat) (e : Ent) (hi : i < ys.length) :
    EB ((((w.setCell ⟨g, i * 4, none⟩ (i64 e.mv)).setCell ⟨g, i * 4 + 1, none⟩ (i64 e.part)).setCell ⟨g, i * 4 + 2, none⟩ (i64 e.fr)).setCell ⟨g, i * 4 + 3, none⟩ (i64 e.dst)) g cap (ys.set i e) := by
  obtain ⟨cur, hb, hs, hc, ht⟩ := h
  refine ⟨(((cur.setIfInBounds (i * 4) (i64 e.mv)).setIfInBounds (i * 4 + 1) (i64 e.part)).setIfInBounds (i * 4 + 2) (i64 e.fr)).setIfInBounds (i * 4 + 3) (i64 e.dst), ?_, ?_, ?_, ?_⟩
  · have step : ∀ (w : World) (c : Array Value) (o : Nat) (v : Value), w.heap[g]? = some (.cells c 96 (0, 0)) → (w.setCell ⟨g, o, none⟩ v).heap[g]? = some (.cells (c.setIfInBounds o v) 96 (0, 0)) := by
      intro w c o v hh
      simp [World.setCell, Array.getElem?_modify, hh]
    exact step _ _ _ _ (step _ _ _ _ (step _ _ _ _ (step _ _ _ _ hb)))
  · simpa using hs
  · simpa using hc
  · rw [List.length_set]
    simp only [Array.toList_setIfInBounds]
    rw [List.take_set, List.take_set, List.take_set, List.take_set, ht]
    exact cellsFlat_set ys i e hi

theorem cmpV_neg (x y : Int) : (cmpV x y < 0) ↔ x < y := by
  unfold cmpV; split
  · simp [*]
  · split <;> simp [*]

def SortPost (g cap : Nat) (es : List Ent) (w : World) (e : Ending) (w' : World) : Prop :=
  e = .returned (.tuple #[]) ∧ ∃ es', EB w' g cap es' ∧ es'.Perm es ∧ es'.Pairwise (fun x y => x.mv ≤ y.mv) ∧ Mod [g] w w'

set_option maxRecDepth 100000 in
set_option maxHeartbeats 1000000 in
theorem insSort_calls (g cap : Nat) (es : List Ent) (w : World) (h : EB w g cap es) (hl : es.length ≤ 12) :
    Calls Tryz.prog 98 #[.slice (some ⟨g, 0, none⟩) es.length cap, i64 0, i64 es.length, .func (.func 62) #[] #[]] w (SortPost g cap es w) := by
  go_enter Tryz.func98, Tryz.ntmps98
  go_wp2_with fail
  go_loopw [8] (fun i wr => ∃ (k : Nat) (xs : List Ent), 1 ≤ k ∧ i = i64 k ∧ SortedTo (min k es.length) xs ∧ EB wr g cap xs ∧ xs.Perm es ∧ Mod [g] w wr) (fun i _ => es.length - (intOf i).toNat)
  case atStart => exact ⟨1, es, by omega, rfl, by intro p q h1 h2; omega, h, List.Perm.refl _, Mod.refl _ _⟩
  case round =>
    obtain ⟨k, xs, hk, rfl, hS, hE, hp, hm⟩ := hrel
    have hlen : xs.length = es.length := hp.length_eq
    have HL := Lib.hid hlen
    clear hlen
    by_cases hlt : k < es.length
    · have hI := InsInv.start (k := k) (by rwa [Nat.min_eq_left (by omega)] at hS)
      have HI := Lib.hid hI
      have HS := Lib.hid hS
      clear hI hS
      obtain ⟨wo, rfl⟩ : ∃ wo : World, wo = wr := ⟨_, rfl⟩
      go_wp2_with fail
      go_loopw [9] (fun j wr => ∃ (m : Nat) (ys : List Ent), m ≤ k ∧ j = i64 m ∧ InsInv k m ys ∧ EB wr g cap ys ∧ ys.Perm es ∧ Mod [g] w wr) (fun j _ => (intOf j).toNat)
      case atStart => exact ⟨k, xs, by omega, rfl, HI.out, hE, hp, hm⟩
      case round =>
        obtain ⟨m, ys, hmk, rfl, hI, hF, hq, hn⟩ := hrel
        have HI2 := Lib.hid hI
        have hlen2 : ys.length = es.length := hq.length_eq
        have HL2 := Lib.hid hlen2
        by_cases hm0 : m = 0
        · subst hm0
          clear hI hlen2
          go_wp2_with fail
          go_quiet (fail)
          go_wp2_with fail
          go_roundw
          case rel => exact ⟨k + 1, ys, by omega, by go_num, by rw [Nat.min_eq_left (by omega)]; exact HI2.out.stop (.inl rfl), hF.drewN _, hq, hn.drewN _⟩
          case measure => simp [intOf]; omega
        · have hy : m < ys.length := by omega
          obtain ⟨a1, a2, a3, a4⟩ := hF.cells m hy
          have hy1 : m - 1 < ys.length := by omega
          obtain ⟨b1, b2, b3, b4⟩ := hF.cells (m - 1) hy1
          have hfz := hF.frozen
          have hmp : 0 < m := by omega
          clear hI
          go_wp2_with fail
          have hml : m < es.length := by omega
          have q1 : (0 : Int) ≤ (m : Int) := by omega
          have q2 : (m : Int) < (es.length : Int) := by omega
          have q3 : (0 : Int) ≤ (m : Int) - 1 := by omega
          have q4 : (m : Int) - 1 < (es.length : Int) := by omega
          have q6 : (1 : Int) ≤ (m : Int) := by omega
          have q5 : IntKind.i64.wrap ((m : Int) - 1) = (m : Int) - 1 := IntWalk.i64_in _ (by omega)
          by_cases hc : cmpV (ys[m]).mv (ys[m - 1]).mv < 0
          all_goals
           go_region_held3 (fun w' => (w'.cell? ⟨g, m * 4, none⟩ = some (i64 (ys[m]).mv) ∧ w'.cell? ⟨g, m * 4 + 1, none⟩ = some (i64 (ys[m]).part) ∧ w'.cell? ⟨g, m * 4 + 2, none⟩ = some (i64 (ys[m]).fr) ∧ w'.cell? ⟨g, m * 4 + 3, none⟩ = some (i64 (ys[m]).dst)) ∧ (w'.cell? ⟨g, (m - 1) * 4, none⟩ = some (i64 (ys[m - 1]).mv) ∧ w'.cell? ⟨g, (m - 1) * 4 + 1, none⟩ = some (i64 (ys[m - 1]).part) ∧ w'.cell? ⟨g, (m - 1) * 4 + 2, none⟩ = some (i64 (ys[m - 1]).fr) ∧ w'.cell? ⟨g, (m - 1) * 4 + 3, none⟩ = some (i64 (ys[m - 1]).dst))) (first | go_keep | assumption) ((go_at_call 62; refine (all1_calls ys[m] ys[m - 1] _).mono ?_; rintro e w1 ⟨rfl, hX⟩; have S1 := (hF.same (rfl : wr.drew.heap[g]? = wr.heap[g]?)).ext hX; have C1 := S1.cells m hy; have C2 := S1.cells (m - 1) hy1))
           go_wp2_with fail
          · have CC := C1
            obtain ⟨a1, a2, a3, a4⟩ := C1
            obtain ⟨b1, b2, b3, b4⟩ := C2
            have hfz1 := S1.frozen
            go_region
            go_wp2_with fail
            go_roundw
            case rel =>
              have P1 := S1.put m ys[m - 1] hy
              have P2 := P1.put (m - 1) ys[m] (by rw [List.length_set]; exact hy1)
              have hsw : swapAt ys m = (ys.set m ys[m - 1]).set (m - 1) ys[m] := by
                unfold swapAt; simp [hy, hy1]
              have hlt2 : mvAt ys m < mvAt ys (m - 1) := by rw [mvAt_eq hy, mvAt_eq hy1]; exact (cmpV_neg _ _).1 hc
              refine ⟨m - 1, swapAt ys m, by omega, by go_num, HI2.out.step hmp hmk hy hlt2, ?_, (swapAt_perm ys m hmp hy).trans hq, ?_⟩
              · rw [hsw]; exact P2.drew
              · refine Mod.drew ?_
                have M0 : Mod [g] w w1 := (Mod.ext (b := wr.drew) hn.drew hX)
                repeat (first | (with_reducible exact Mod.refl _ _) | (with_reducible assumption) | (with_reducible refine Mod.setCell ?_ (by simp) _) | (with_reducible refine Mod.alloc ?_ _) | (with_reducible refine Mod.drew ?_) | (with_reducible refine Mod.drewN ?_ _))
            case measure => simp [intOf]; omega
          · go_roundw
            case rel =>
              refine ⟨k + 1, ys, by omega, by go_num, ?_, S1, hq, Mod.ext (b := wr.drew) hn.drew hX⟩
              rw [Nat.min_eq_left (by omega)]
              refine HI2.out.stop (.inr ?_)
              rw [mvAt_eq hy, mvAt_eq hy1]
              rcases Int.lt_or_le (ys[m]).mv (ys[m - 1]).mv with hh | hh
              · have := (cmpV_neg _ _).2 hh; omega
              · exact hh
            case measure => simp [intOf]; omega
    · have hk2 : min k es.length = es.length := Nat.min_eq_right (by omega)
      go_wp2_with fail
      go_end0
      refine ⟨rfl, xs, hE, hp, ?_, hm⟩
      rw [hk2] at hS
      have := HL.out
      rw [← this] at hS
      exact hS.pairwise
end
end Go.Proofs.YtchmhkdnegngdaaGreat
