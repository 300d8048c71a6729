/- The functions of package table: what each call returns. Package table, further: Same, Owner, May. Package table, further: Copy, Move. Package table, last: New. -/
import Derived.Test.YtchmhkdnegngdaaGreatGB
import Derived.Deep.RegionLaw
import Derived.Deep.AppendLies
import Derived.Deep.DrawnRows
set_option linter.unusedVariables false
set_option linter.unusedSimpArgs false
namespace Go.Proofs.YtchmhkdnegngdaaGreat
open Go.RowKit

section
/-- a number that no node has -/
def badOwner (n x : Int) : Bool := decide (x < 0) || decide (n ≤ x)

theorem any_take_succ {α : Type} (p : α → Bool) (xs : List α) (k : Nat) (h : k < xs.length) :
    (xs.take (k + 1)).any p = ((xs.take k).any p || p xs[k]) := by
  rw [List.take_succ_eq_append_getElem h, List.any_append]; simp

theorem any_of_at {α : Type} (p : α → Bool) (xs : List α) (k : Nat) (h : k < xs.length) (hp : p xs[k] = true) : xs.any p = true := by
  rw [List.any_eq_true]; exact ⟨xs[k], List.getElem_mem h, hp⟩

theorem right1 (x : Int) (n : Int) (b : Nat) (w : World) (hb : w.cell? ⟨b, 1, none⟩ = some (i64 n)) :
    Calls Tryz.prog 58 #[i64 x, .pointer (some ⟨b, 0, none⟩)] w fun e w' => e = .returned (.bool (badOwner n x)) ∧ w = w' := by
  unfold badOwner
  by_cases h : x < 0
  · go_enter Tryz.func58, Tryz.ntmps58
    go_wp2
    go_ret
    exact ⟨by simp [h], rfl⟩
  · go_enter Tryz.func58, Tryz.ntmps58
    go_wp2
    go_ret
    exact ⟨by simp [h]; omega, rfl⟩

def SignSays (c : Bool) (w : World) (e : Ending) (w' : World) : Prop := (∃ r : Int, e = .returned (i64 r) ∧ decide (0 ≤ r) = c) ∧ w = w'

/-- IndexFunc -/
theorem indexFunc (b off cap : Nat) (xs : List Int) (n : Int) (bt : Nat) (w : World) (hl : xs.length ≤ 4096)
    (hx : IA w b off xs) (hb : w.cell? ⟨bt, 1, none⟩ = some (i64 n)) :
    Calls Tryz.prog 75 #[.slice (some ⟨b, off, none⟩) xs.length cap, .func (.func 58) #[] #[.pointer (some ⟨bt, 0, none⟩)]] w
      (SignSays (xs.any (badOwner n)) w) := by
  go_enter Tryz.func75, Tryz.ntmps75
  go_wp2
  go_loop [8] (fun i => ∃ k : Nat, k ≤ xs.length ∧ i = i64 k ∧ (xs.take k).any (badOwner n) = false) (fun i => xs.length - (intOf i).toNat)
  case atStart => exact ⟨0, Nat.zero_le _, rfl, by simp⟩
  case round =>
    obtain ⟨k, hk, rfl, hpre⟩ := hrel
    have H := Lib.hid hpre
    clear hpre
    by_cases hlt : k < xs.length
    · have hc := hx.at hlt
      go_wp2_with (go_at_call 58; refine (right1 _ n _ _ (by assumption)).mono ?_; rintro e w' ⟨rfl, rfl⟩)
      · go_ret
        have hp : badOwner n xs[k] = true := by assumption
        exact ⟨⟨k, rfl, by rw [any_of_at _ _ k hlt hp]; simp⟩, rfl⟩
      · have hp : badOwner n xs[k] = false := by assumption
        go_round
        case rel => exact ⟨k + 1, by omega, by go_num, by rw [any_take_succ _ _ _ hlt, H.out, hp]; rfl⟩
        case measure => simp [intOf]; omega
    · go_wp2
      go_ret
      refine ⟨⟨-1, rfl, ?_⟩, rfl⟩
      have := H.out
      rw [List.take_of_length_le (by omega)] at this
      rw [this]; rfl

theorem containsFunc (b off cap : Nat) (xs : List Int) (n : Int) (bt : Nat) (w : World) (hl : xs.length ≤ 4096)
    (hx : IA w b off xs) (hb : w.cell? ⟨bt, 1, none⟩ = some (i64 n)) :
    Calls Tryz.prog 57 #[.slice (some ⟨b, off, none⟩) xs.length cap, .func (.func 58) #[] #[.pointer (some ⟨bt, 0, none⟩)]] w
      fun e w' => e = .returned (.bool (xs.any (badOwner n))) ∧ w = w' := by
  go_enter Tryz.func57, Tryz.ntmps57
  go_wp2_with fail
  refine (indexFunc b off cap xs n bt w hl hx hb).mono ?_
  rintro e w' ⟨⟨r, rfl, hr⟩, rfl⟩
  have H := Lib.hid hr
  clear hr
  go_wp2
  go_ret
  exact ⟨by rw [← H.out]; simp, rfl⟩

/-- what Right says -/
def rightB (ep n : Int) (xs : List Int) : Bool :=
  decide (1 ≤ ep) && decide (1 ≤ n) && decide (n ≤ 4) && decide (1 ≤ xs.length) && decide (xs.length ≤ 8) && !xs.any (badOwner n)

theorem right_calls (ep n : Int) (b off cap : Nat) (xs : List Int) (w : World) (hl : xs.length ≤ 4096) (hx : IA w b off xs) :
    Calls Tryz.prog 39 #[.agg #[i64 ep, i64 n, .slice (some ⟨b, off, none⟩) xs.length cap]] w
      fun e w' => e = .returned (.bool (rightB ep n xs)) ∧ w.alloc (.cells #[i64 ep, i64 n, .slice (some ⟨b, off, none⟩) xs.length cap] 28) = w' := by
  have hx1 : IA (w.alloc (.cells #[i64 ep, i64 n, .slice (some ⟨b, off, none⟩) xs.length cap] 28)) b off xs :=
    hx.ext ((Below.refl _ _).alloc (Nat.le_refl _) _)
  by_cases h1 : 1 ≤ ep
  case neg =>
    have hv : rightB ep n xs = false := by simp only [rightB, decide_eq_false h1, Bool.false_and, Bool.and_false]
    go_enter Tryz.func39, Tryz.ntmps39
    go_wp2; go_ret; exact ⟨rfl, rfl⟩
  by_cases h2 : 1 ≤ n
  case neg =>
    have hv : rightB ep n xs = false := by simp only [rightB, decide_eq_false h2, Bool.false_and, Bool.and_false]
    go_enter Tryz.func39, Tryz.ntmps39
    go_wp2; go_ret; exact ⟨rfl, rfl⟩
  by_cases h3 : n ≤ 4
  case neg =>
    have hv : rightB ep n xs = false := by simp only [rightB, decide_eq_false h3, Bool.false_and, Bool.and_false]
    go_enter Tryz.func39, Tryz.ntmps39
    go_wp2; go_ret; exact ⟨rfl, rfl⟩
  by_cases h4 : 1 ≤ xs.length
  case neg =>
    have hv : rightB ep n xs = false := by simp only [rightB, decide_eq_false h4, Bool.false_and, Bool.and_false]
    go_enter Tryz.func39, Tryz.ntmps39
    go_wp2; go_ret; exact ⟨rfl, rfl⟩
  by_cases h5 : xs.length ≤ 8
  case neg =>
    have hv : rightB ep n xs = false := by simp only [rightB, decide_eq_false h5, Bool.false_and, Bool.and_false]
    go_enter Tryz.func39, Tryz.ntmps39
    go_wp2; go_ret; exact ⟨rfl, rfl⟩
  go_enter Tryz.func39, Tryz.ntmps39
  go_wp2_with fail
  refine (containsFunc b off cap xs n _ _ hl hx1 (by simp [go_sem])).mono ?_
  rintro e w' ⟨rfl, rfl⟩
  go_wp2; go_ret; exact ⟨by simp [rightB, h1, h2, h3, h4, h5], rfl⟩


/-- Clone of nothing -/
theorem clone_nil (w : World) : Calls Tryz.prog 59 #[.slice none 0 0] w fun e w' => e = .returned (.slice none 0 0) ∧ w = w' := by
  have q26 : ∀ (w : World) (a : Option Addr) (n c n' c' : Nat), (binOp .eql 26 (.slice a n c) (.slice none n' c')).run Tryz.prog w = .ok (.bool a.isNone) w := fun w a n c n' c' => Lib.run_eql_slice_nil w _ _ a n c n' c' Tryz.underlying26
  go_enter Tryz.func59, Tryz.ntmps59
  go_wp2
  go_ret
  exact ⟨rfl, rfl⟩

theorem clone_calls (b off cap : Nat) (xs : List Int) (w : World) (hl : xs.length ≤ 4096) (hx : IA w b off xs) :
    Calls Tryz.prog 59 #[.slice (some ⟨b, off, none⟩) xs.length cap] w fun e w' =>
      ∃ v, e = .returned v ∧ w'.ownsRow w.heap.size 3 1 v xs.length (xs.map i64) ∧ Ext w w' := by
  have q26 : ∀ (w : World) (a : Option Addr) (n c n' c' : Nat), (binOp .eql 26 (.slice a n c) (.slice none n' c')).run Tryz.prog w = .ok (.bool a.isNone) w := fun w a n c n' c' => Lib.run_eql_slice_nil w _ _ a n c n' c' Tryz.underlying26
  obtain ⟨i0, hi, hz0, hz1, hz2⟩ := info_parts info3
  have hx1 : IA (w.alloc (.cells #[] 3)) b off xs := hx.ext ((Below.refl _ _).alloc (Nat.le_refl _) _)
  have hown : (w.alloc (.cells #[] 3)).ownsRow w.heap.size 3 1 (.slice (some ⟨w.heap.size, 0, none⟩) 0 0) 0 [] := World.ownsRow_made w #[] 0 (Nat.le_refl _) (by decide) rfl
  go_enter Tryz.func59, Tryz.ntmps59
  go_wp2_with (at_builtin; refine wpList_append_own _ rfl _ _ 26 rfl w.heap.size 3 i0 (.int .i64 0) 1 8 Tryz.underlying26 hi hz0 hz1 hz2 rfl (by decide) _ _ _ rfl hown ⟨b, off, none⟩ xs.length cap (xs.map i64) rfl (by simp) hx1.news (map_i64_one _) (by unfold maxLen; omega) (by omega) (by simp) ?_)
  intro v' w1 hown1 hg _
  have hE : Ext w w1 := ((Below.refl _ _).alloc (Nat.le_refl _) _).grown hg (by simp) (by intro k hk; cases hk; exact Nat.le_refl _)
  have HO := Lib.hid hown1
  clear hown1 hg hown hx1
  go_wp2
  go_ret
  refine ⟨v', rfl, ?_, hE⟩
  have := HO.out
  simpa using this

def eqB (xs ys : List Int) : Bool := decide (xs = ys)

theorem take_succ_eq {α : Type} {xs ys : List α} {k : Nat} (h1 : k < xs.length) (h2 : k < ys.length) (h : xs.take k = ys.take k) (he : xs[k] = ys[k]) : xs.take (k + 1) = ys.take (k + 1) := by
  rw [List.take_succ_eq_append_getElem h1, List.take_succ_eq_append_getElem h2, h, he]

theorem equal_calls (b off cap b2 off2 cap2 : Nat) (xs ys : List Int) (w : World) (hl : xs.length ≤ 4096) (hl2 : ys.length ≤ 4096) (hx : IA w b off xs) (hy : IA w b2 off2 ys) :
    Calls Tryz.prog 54 #[.slice (some ⟨b, off, none⟩) xs.length cap, .slice (some ⟨b2, off2, none⟩) ys.length cap2] w
      fun e w' => e = .returned (.bool (eqB xs ys)) ∧ Ext w w' := by
  by_cases h0 : xs.length = ys.length
  case neg =>
    have hv : eqB xs ys = false := by unfold eqB; rw [decide_eq_false]; intro h; exact h0 (by rw [h])
    have H := Lib.hid hv; clear hv
    go_enter Tryz.func54, Tryz.ntmps54
    go_wp2
    go_ret
    exact ⟨by rw [H.out]; rfl, Below.refl _ _⟩
  have H0 := Lib.hid h0
  go_enter Tryz.func54, Tryz.ntmps54
  go_wp2
  go_loopw [13] (fun i wr => ∃ k : Nat, k ≤ xs.length ∧ i = i64 k ∧ (xs.take k) = ys.take k ∧ Ext w wr) (fun i _ => xs.length - (intOf i).toNat)
  case atStart => exact ⟨0, Nat.zero_le _, rfl, by simp, Below.refl _ _⟩
  case round =>
    obtain ⟨k, hk, rfl, hpre, hE⟩ := hrel
    have H := Lib.hid hpre
    clear hpre
    by_cases hlt : k < xs.length
    · have hc := (hx.ext hE).at hlt
      have hc2 := (hy.ext hE).at (show k < ys.length by omega)
      by_cases he : xs[k] = ys[k]'(by omega)
      · have Q : (xs[k] != ys[k]'(by omega)) = false := by rw [he]; simp
        have HE := Lib.hid he
        clear he
        go_wp2_with fail
        go_quiet (fail)
        go_wp2
        go_roundw
        case rel => exact ⟨k + 1, by omega, by go_num, take_succ_eq _ _ H.out HE.out, below_drewN hE _⟩
        case measure => simp [intOf]; omega
      · have Q : (xs[k] != ys[k]'(by omega)) = true := by simpa using he
        have HE := Lib.hid he
        clear he
        go_wp2_with fail
        go_quiet (fail)
        go_wp2
        go_ret
        refine ⟨?_, below_drewN hE _⟩
        have hv : eqB xs ys = false := by
          unfold eqB; rw [decide_eq_false]; intro h; subst h; exact HE.out rfl
        rw [hv]; rfl
    · go_wp2
      go_ret
      refine ⟨?_, hE⟩
      have := H.out
      rw [List.take_of_length_le (by omega), List.take_of_length_le (by omega)] at this
      unfold eqB; rw [decide_eq_true this]; rfl
end

section
/-- Same of two tables -/
def sameB (e1 n1 : Int) (xs : List Int) (e2 n2 : Int) (ys : List Int) : Bool := decide (e1 = e2) && decide (n1 = n2) && eqB xs ys

theorem tsame_calls (e1 n1 e2 n2 : Int) (b off cap b2 off2 cap2 : Nat) (xs ys : List Int) (w : World) (hl : xs.length ≤ 4096) (hl2 : ys.length ≤ 4096) (hx : IA w b off xs) (hy : IA w b2 off2 ys) :
    Calls Tryz.prog 33 #[.agg #[i64 e1, i64 n1, .slice (some ⟨b, off, none⟩) xs.length cap], .agg #[i64 e2, i64 n2, .slice (some ⟨b2, off2, none⟩) ys.length cap2]] w
      fun e w' => e = .returned (.bool (sameB e1 n1 xs e2 n2 ys)) ∧ Ext w w' := by
  by_cases h1 : e1 = e2
  case neg =>
    have hv : sameB e1 n1 xs e2 n2 ys = false := by simp only [sameB, decide_eq_false h1, Bool.false_and]
    have H := Lib.hid hv; clear hv
    have h1' : (e1 == e2) = false := by simpa using h1
    go_enter Tryz.func33, Tryz.ntmps33
    go_wp2; go_ret; exact ⟨by rw [H.out]; rfl, by (refine Mod.to_ext (S := []) ?_ (by simp); repeat (first | (with_reducible exact Mod.refl _ _) | (with_reducible assumption) | (with_reducible refine Mod.alloc ?_ _) | (with_reducible refine Mod.drew ?_) | (with_reducible refine Mod.drewN ?_ _)))⟩
  by_cases h2 : n1 = n2
  case neg =>
    have hv : sameB e1 n1 xs e2 n2 ys = false := by simp only [sameB, decide_eq_false h2, Bool.false_and, Bool.and_false]
    have H := Lib.hid hv; clear hv
    have h1' : (n1 == n2) = false := by simpa using h2
    go_enter Tryz.func33, Tryz.ntmps33
    go_wp2; go_ret; exact ⟨by rw [H.out]; rfl, by (refine Mod.to_ext (S := []) ?_ (by simp); repeat (first | (with_reducible exact Mod.refl _ _) | (with_reducible assumption) | (with_reducible refine Mod.alloc ?_ _) | (with_reducible refine Mod.drew ?_) | (with_reducible refine Mod.drewN ?_ _)))⟩
  subst h1 h2
  have hv : sameB e1 n1 xs e1 n1 ys = eqB xs ys := by simp [sameB]
  have H := Lib.hid hv; clear hv
  have E1 : Ext w ((w.alloc (.cells #[i64 e1, i64 n1, .slice (some ⟨b, off, none⟩) xs.length cap] 28)).alloc (.cells #[i64 e1, i64 n1, .slice (some ⟨b2, off2, none⟩) ys.length cap2] 28)) := by (refine Mod.to_ext (S := []) ?_ (by simp); repeat (first | (with_reducible exact Mod.refl _ _) | (with_reducible assumption) | (with_reducible refine Mod.alloc ?_ _) | (with_reducible refine Mod.drew ?_) | (with_reducible refine Mod.drewN ?_ _)))
  go_enter Tryz.func33, Tryz.ntmps33
  go_wp2_with fail
  refine (equal_calls b off cap b2 off2 cap2 xs ys _ hl hl2 (hx.ext E1) (hy.ext E1)).mono ?_
  rintro e w1 ⟨rfl, hE⟩
  go_wp2; go_ret; exact ⟨by rw [H.out]; rfl, E1.trans hE⟩

/-- Owner's answer -/
def ownerV (ep n : Int) (xs : List Int) (part : Int) : Int × Bool :=
  if rightB ep n xs ∧ 0 ≤ part ∧ part < xs.length then (xs.getD part.toNat 0, true) else (0, false)

theorem owner_calls (ep n : Int) (b off cap : Nat) (xs : List Int) (part : Int) (w : World) (hl : xs.length ≤ 4096) (hx : IA w b off xs) :
    Calls Tryz.prog 36 #[.agg #[i64 ep, i64 n, .slice (some ⟨b, off, none⟩) xs.length cap], i64 part] w
      fun e w' => e = .returned (.tuple #[i64 (ownerV ep n xs part).1, .bool (ownerV ep n xs part).2]) ∧ Ext w w' := by
  have E1 : Ext w (w.alloc (.cells #[i64 ep, i64 n, .slice (some ⟨b, off, none⟩) xs.length cap] 28)) := by (refine Mod.to_ext (S := []) ?_ (by simp); repeat (first | (with_reducible exact Mod.refl _ _) | (with_reducible assumption) | (with_reducible refine Mod.alloc ?_ _) | (with_reducible refine Mod.drew ?_) | (with_reducible refine Mod.drewN ?_ _)))
  cases hr : rightB ep n xs with
  | false =>
    have hv : ownerV ep n xs part = (0, false) := by simp [ownerV, hr]
    have H := Lib.hid hv; clear hv
    have H2 := Lib.hid hr; clear hr
    go_enter Tryz.func36, Tryz.ntmps36
    go_wp2_with fail
    refine (right_calls ep n b off cap xs _ hl (hx.ext E1)).mono ?_
    rintro e w1 ⟨rfl, rfl⟩
    rw [H2.out]
    go_wp2; go_ret2; exact ⟨by rw [H.out]; rfl, by (refine Mod.to_ext (S := []) ?_ (by simp); repeat (first | (with_reducible exact Mod.refl _ _) | (with_reducible assumption) | (with_reducible refine Mod.alloc ?_ _) | (with_reducible refine Mod.drew ?_) | (with_reducible refine Mod.drewN ?_ _)))⟩
  | true =>
    by_cases h1 : part < 0
    · have hv : ownerV ep n xs part = (0, false) := by
        unfold ownerV; rw [if_neg]; omega
      have H := Lib.hid hv; clear hv
      have H2 := Lib.hid hr; clear hr
      go_enter Tryz.func36, Tryz.ntmps36
      go_wp2_with fail
      refine (right_calls ep n b off cap xs _ hl (hx.ext E1)).mono ?_
      rintro e w1 ⟨rfl, rfl⟩
      rw [H2.out]
      go_wp2; go_ret2; exact ⟨by rw [H.out]; rfl, by (refine Mod.to_ext (S := []) ?_ (by simp); repeat (first | (with_reducible exact Mod.refl _ _) | (with_reducible assumption) | (with_reducible refine Mod.alloc ?_ _) | (with_reducible refine Mod.drew ?_) | (with_reducible refine Mod.drewN ?_ _)))⟩
    · obtain ⟨p, rfl⟩ := Int.eq_ofNat_of_zero_le (show 0 ≤ part by omega)
      by_cases h2 : p < xs.length
      · have hv : ownerV ep n xs p = (xs[p], true) := by
          unfold ownerV; rw [if_pos ⟨hr, by omega, by omega⟩]; simp [h2]
        have hc := hx.at h2
        have H := Lib.hid hv; clear hv
        have H2 := Lib.hid hr; clear hr
        go_enter Tryz.func36, Tryz.ntmps36
        go_wp2_with fail
        refine (right_calls ep n b off cap xs _ hl (hx.ext E1)).mono ?_
        rintro e w1 ⟨rfl, rfl⟩
        rw [H2.out]
        have hb : b < w.heap.size := World.block_lt_of_cell? w _ hc
        go_wp2; go_ret2; exact ⟨by rw [H.out]; rfl, by (refine Mod.to_ext (S := []) ?_ (by simp); repeat (first | (with_reducible exact Mod.refl _ _) | (with_reducible assumption) | (with_reducible refine Mod.alloc ?_ _) | (with_reducible refine Mod.drew ?_) | (with_reducible refine Mod.drewN ?_ _)))⟩
      · have hv : ownerV ep n xs p = (0, false) := by
          unfold ownerV; rw [if_neg]; omega
        have H := Lib.hid hv; clear hv
        have H2 := Lib.hid hr; clear hr
        go_enter Tryz.func36, Tryz.ntmps36
        go_wp2_with fail
        refine (right_calls ep n b off cap xs _ hl (hx.ext E1)).mono ?_
        rintro e w1 ⟨rfl, rfl⟩
        rw [H2.out]
        go_wp2; go_ret2; exact ⟨by rw [H.out]; rfl, by (refine Mod.to_ext (S := []) ?_ (by simp); repeat (first | (with_reducible exact Mod.refl _ _) | (with_reducible assumption) | (with_reducible refine Mod.alloc ?_ _) | (with_reducible refine Mod.drew ?_) | (with_reducible refine Mod.drewN ?_ _)))⟩


/-- May's answer -/
def mayV (ep n : Int) (xs : List Int) (part dst : Int) : Int :=
  if rightB ep n xs = false ∨ 2147483647 ≤ ep then 1
  else if part < 0 ∨ xs.length ≤ part then 21
  else if dst < 0 ∨ n ≤ dst then 22
  else if xs.getD part.toNat 0 = dst then 23
  else 0

theorem may_calls (ep n : Int) (b off cap : Nat) (xs : List Int) (part dst : Int) (w : World) (hl : xs.length ≤ 4096) (hx : IA w b off xs) :
    Calls Tryz.prog 60 #[.agg #[i64 ep, i64 n, .slice (some ⟨b, off, none⟩) xs.length cap], i64 part, i64 dst] w
      fun e w' => e = .returned (i64 (mayV ep n xs part dst)) ∧ Ext w w' := by
  have E1 : Ext w (w.alloc (.cells #[i64 ep, i64 n, .slice (some ⟨b, off, none⟩) xs.length cap] 28)) := by (refine Mod.to_ext (S := []) ?_ (by simp); repeat (first | (with_reducible exact Mod.refl _ _) | (with_reducible assumption) | (with_reducible refine Mod.alloc ?_ _) | (with_reducible refine Mod.drew ?_) | (with_reducible refine Mod.drewN ?_ _)))
  have R := right_calls ep n b off cap xs _ hl (hx.ext E1)
  cases hr : rightB ep n xs with
  | false =>
    have hv : mayV ep n xs part dst = 1 := by unfold mayV; rw [if_pos (.inl hr)]
    have H := Lib.hid hv; clear hv
    rw [hr] at R
    clear hr
    go_enter Tryz.func60, Tryz.ntmps60
    go_wp2_with fail
    refine R.mono ?_
    rintro e w1 ⟨rfl, rfl⟩
    go_wp2; go_ret; exact ⟨by rw [H.out]; rfl, by (refine Mod.to_ext (S := []) ?_ (by simp); repeat (first | (with_reducible exact Mod.refl _ _) | (with_reducible assumption) | (with_reducible refine Mod.alloc ?_ _) | (with_reducible refine Mod.drew ?_) | (with_reducible refine Mod.drewN ?_ _)))⟩
  | true =>
    rw [hr] at R
    by_cases h0 : 2147483647 ≤ ep
    · have hv : mayV ep n xs part dst = 1 := by unfold mayV; rw [if_pos (.inr h0)]
      have H := Lib.hid hv; clear hv
      clear hr
      go_enter Tryz.func60, Tryz.ntmps60
      go_wp2_with fail
      refine R.mono ?_
      rintro e w1 ⟨rfl, rfl⟩
      go_wp2; go_ret; exact ⟨by rw [H.out]; rfl, by (refine Mod.to_ext (S := []) ?_ (by simp); repeat (first | (with_reducible exact Mod.refl _ _) | (with_reducible assumption) | (with_reducible refine Mod.alloc ?_ _) | (with_reducible refine Mod.drew ?_) | (with_reducible refine Mod.drewN ?_ _)))⟩
    by_cases h1 : part < 0
    · have hv : mayV ep n xs part dst = 21 := by unfold mayV; rw [if_neg (by rw [hr]; simp; omega), if_pos (.inl h1)]
      have H := Lib.hid hv; clear hv
      clear hr
      go_enter Tryz.func60, Tryz.ntmps60
      go_wp2_with fail
      refine R.mono ?_
      rintro e w1 ⟨rfl, rfl⟩
      go_wp2; go_ret; exact ⟨by rw [H.out]; rfl, by (refine Mod.to_ext (S := []) ?_ (by simp); repeat (first | (with_reducible exact Mod.refl _ _) | (with_reducible assumption) | (with_reducible refine Mod.alloc ?_ _) | (with_reducible refine Mod.drew ?_) | (with_reducible refine Mod.drewN ?_ _)))⟩
    obtain ⟨p, rfl⟩ := Int.eq_ofNat_of_zero_le (show 0 ≤ part by omega)
    by_cases h2 : p < xs.length
    case neg =>
      have hv : mayV ep n xs p dst = 21 := by unfold mayV; rw [if_neg (by rw [hr]; simp; omega), if_pos (.inr (by omega))]
      have H := Lib.hid hv; clear hv
      clear hr
      go_enter Tryz.func60, Tryz.ntmps60
      go_wp2_with fail
      refine R.mono ?_
      rintro e w1 ⟨rfl, rfl⟩
      go_wp2; go_ret; exact ⟨by rw [H.out]; rfl, by (refine Mod.to_ext (S := []) ?_ (by simp); repeat (first | (with_reducible exact Mod.refl _ _) | (with_reducible assumption) | (with_reducible refine Mod.alloc ?_ _) | (with_reducible refine Mod.drew ?_) | (with_reducible refine Mod.drewN ?_ _)))⟩
    by_cases h3 : dst < 0
    · have hv : mayV ep n xs p dst = 22 := by unfold mayV; rw [if_neg (by rw [hr]; simp; omega), if_neg (by omega), if_pos (.inl h3)]
      have H := Lib.hid hv; clear hv
      clear hr
      go_enter Tryz.func60, Tryz.ntmps60
      go_wp2_with fail
      refine R.mono ?_
      rintro e w1 ⟨rfl, rfl⟩
      go_wp2; go_ret; exact ⟨by rw [H.out]; rfl, by (refine Mod.to_ext (S := []) ?_ (by simp); repeat (first | (with_reducible exact Mod.refl _ _) | (with_reducible assumption) | (with_reducible refine Mod.alloc ?_ _) | (with_reducible refine Mod.drew ?_) | (with_reducible refine Mod.drewN ?_ _)))⟩
    by_cases h4 : n ≤ dst
    · have hv : mayV ep n xs p dst = 22 := by unfold mayV; rw [if_neg (by rw [hr]; simp; omega), if_neg (by omega), if_pos (.inr h4)]
      have H := Lib.hid hv; clear hv
      clear hr
      go_enter Tryz.func60, Tryz.ntmps60
      go_wp2_with fail
      refine R.mono ?_
      rintro e w1 ⟨rfl, rfl⟩
      go_wp2; go_ret; exact ⟨by rw [H.out]; rfl, by (refine Mod.to_ext (S := []) ?_ (by simp); repeat (first | (with_reducible exact Mod.refl _ _) | (with_reducible assumption) | (with_reducible refine Mod.alloc ?_ _) | (with_reducible refine Mod.drew ?_) | (with_reducible refine Mod.drewN ?_ _)))⟩
    have hc := hx.at h2
    have hb : b < w.heap.size := World.block_lt_of_cell? w _ hc
    by_cases h5 : xs[p] = dst
    · have hv : mayV ep n xs p dst = 23 := by unfold mayV; rw [if_neg (by rw [hr]; simp; omega), if_neg (by omega), if_neg (by omega), if_pos (by simpa [h2] using h5)]
      have hq : (xs[p] == dst) = true := by simpa using h5
      have H := Lib.hid hv; clear hv
      clear hr h5
      go_enter Tryz.func60, Tryz.ntmps60
      go_wp2_with fail
      refine R.mono ?_
      rintro e w1 ⟨rfl, rfl⟩
      go_wp2; go_ret; exact ⟨by rw [H.out]; rfl, by (refine Mod.to_ext (S := []) ?_ (by simp); repeat (first | (with_reducible exact Mod.refl _ _) | (with_reducible assumption) | (with_reducible refine Mod.alloc ?_ _) | (with_reducible refine Mod.drew ?_) | (with_reducible refine Mod.drewN ?_ _)))⟩
    · have hv : mayV ep n xs p dst = 0 := by unfold mayV; rw [if_neg (by rw [hr]; simp; omega), if_neg (by omega), if_neg (by omega), if_neg (by simpa [h2] using h5)]
      have hq : (xs[p] == dst) = false := by simpa using h5
      have H := Lib.hid hv; clear hv
      clear hr h5
      go_enter Tryz.func60, Tryz.ntmps60
      go_wp2_with fail
      refine R.mono ?_
      rintro e w1 ⟨rfl, rfl⟩
      go_wp2; go_ret; exact ⟨by rw [H.out]; rfl, by (refine Mod.to_ext (S := []) ?_ (by simp); repeat (first | (with_reducible exact Mod.refl _ _) | (with_reducible assumption) | (with_reducible refine Mod.alloc ?_ _) | (with_reducible refine Mod.drew ?_) | (with_reducible refine Mod.drewN ?_ _)))⟩
end

section
/-- a table in new memory -/
def NewTable (ep n : Int) (xs : List Int) (w : World) (e : Ending) (w' : World) : Prop :=
  ∃ g cap, e = .returned (.agg #[i64 ep, i64 n, .slice (some ⟨g, 0, none⟩) xs.length cap]) ∧ w'.ownsRow w.heap.size 3 1 (.slice (some ⟨g, 0, none⟩) xs.length cap) xs.length (xs.map i64) ∧ Ext w w'

theorem copy_calls (ep n : Int) (b off cap : Nat) (xs : List Int) (w : World) (hl : xs.length ≤ 4096) (hx : IA w b off xs) (hne : 0 < xs.length) :
    Calls Tryz.prog 40 #[.agg #[i64 ep, i64 n, .slice (some ⟨b, off, none⟩) xs.length cap]] w (NewTable ep n xs w) := by
  have E1 : Ext w ((w.alloc (.cells #[i64 ep, i64 n, .slice (some ⟨b, off, none⟩) xs.length cap] 28)).alloc (.cells #[i64 0, i64 0, .slice none 0 0] 28)) := by (refine Mod.to_ext (S := []) ?_ (by simp); repeat (first | (with_reducible exact Mod.refl _ _) | (with_reducible assumption) | (with_reducible refine Mod.alloc ?_ _) | (with_reducible refine Mod.drew ?_) | (with_reducible refine Mod.drewN ?_ _)))
  have R := clone_calls b off cap xs _ hl (hx.ext E1)
  go_enter Tryz.func40, Tryz.ntmps40
  go_wp2_with fail
  refine R.mono ?_
  rintro e w1 ⟨v, rfl, ho, hE⟩
  obtain ⟨g, cap', rfl, hg, hg2, hi, hf⟩ := ownsRow_IA ho hne
  have hz := hE.size
  have B0 := ((Blk.new w [i64 ep, i64 n, .slice (some ⟨b, off, none⟩) xs.length cap] 28).old (.cells #[i64 0, i64 0, .slice none 0 0] 28)).ext hE
  have B1 := (Blk.new (w.alloc (.cells #[i64 ep, i64 n, .slice (some ⟨b, off, none⟩) xs.length cap] 28)) [i64 0, i64 0, .slice none 0 0] 28).ext hE
  obtain ⟨c0, f0⟩ := B0.read
  obtain ⟨c1, f1⟩ := B1.read
  simp only [World.size_alloc] at c1 f1
  go_wp2
  refine bodyPost_ret (v := .agg #[i64 ep, i64 n, .slice (some ⟨g, 0, none⟩) xs.length cap']) (by simp [results, Tryz.results40, go_sem, c1]) rfl ?_
  have M : Mod [w.heap.size, w.heap.size + 1] w1 ((((w1.setCell ⟨w.heap.size, 2, none⟩ (.slice (some ⟨g, 0, none⟩) xs.length cap')).setCell ⟨w.heap.size + 1, 0, none⟩ (i64 ep)).setCell ⟨w.heap.size + 1, 1, none⟩ (i64 n)).setCell ⟨w.heap.size + 1, 2, none⟩ (.slice (some ⟨g, 0, none⟩) xs.length cap')) :=
    ((((Mod.refl _ _).setCell (by simp) _).setCell (by simp) _).setCell (by simp) _).setCell (by simp) _
  refine ⟨g, cap', rfl, ownsRow_base (ownsRow_mod ho M (by simp <;> omega)) (by simp; omega), ?_⟩
  exact ((Mod.of_ext (E1.trans hE)).trans M).to_ext (by simp)



theorem tmove_err (ep n : Int) (b off cap : Nat) (xs : List Int) (part dst : Int) (w : World) (hl : xs.length ≤ 4096) (hx : IA w b off xs) (hm : mayV ep n xs part dst ≠ 0) :
    Calls Tryz.prog 65 #[.agg #[i64 ep, i64 n, .slice (some ⟨b, off, none⟩) xs.length cap], i64 part, i64 dst] w
      fun e w' => e = .returned (.tuple #[.agg #[i64 0, i64 0, .slice none 0 0], i64 (mayV ep n xs part dst)]) ∧ Ext w w' := by
  have E1 : Ext w ((w.alloc (.cells #[i64 ep, i64 n, .slice (some ⟨b, off, none⟩) xs.length cap] 28)).alloc (.cells #[i64 0, i64 0, .slice none 0 0] 28)) := by (refine Mod.to_ext (S := []) ?_ (by simp); repeat (first | (with_reducible exact Mod.refl _ _) | (with_reducible assumption) | (with_reducible refine Mod.alloc ?_ _) | (with_reducible refine Mod.drew ?_) | (with_reducible refine Mod.drewN ?_ _)))
  have R := may_calls ep n b off cap xs part dst _ hl (hx.ext E1)
  have hq : (mayV ep n xs part dst != 0) = true := by simpa using hm
  generalize mayV ep n xs part dst = r at *
  clear hm
  go_enter Tryz.func65, Tryz.ntmps65
  go_wp2_with fail
  refine R.mono ?_
  rintro e w1 ⟨rfl, hE⟩
  have hz := hE.size
  have B1 := (Blk.new (w.alloc (.cells #[i64 ep, i64 n, .slice (some ⟨b, off, none⟩) xs.length cap] 28)) [i64 0, i64 0, .slice none 0 0] 28).ext hE
  obtain ⟨c1, f1⟩ := B1.read
  simp only [World.size_alloc] at c1 f1
  go_wp2
  refine bodyPost_ret (v := .tuple #[.agg #[i64 0, i64 0, .slice none 0 0], i64 r]) (by simp [results, Tryz.results65, go_sem, c1]) rfl ⟨rfl, ?_⟩
  have M : Mod [w.heap.size + 1] w (((w1.setCell ⟨w.heap.size + 1, 0, none⟩ (i64 0)).setCell ⟨w.heap.size + 1, 1, none⟩ (i64 0)).setCell ⟨w.heap.size + 1, 2, none⟩ (.slice none 0 0)) := by
    have M0 : Mod [w.heap.size + 1] w w1 := (Mod.of_ext E1).ext hE
    repeat (first | (with_reducible exact Mod.refl _ _) | (with_reducible assumption) | (with_reducible refine Mod.setCell ?_ (by simp) _) | (with_reducible refine Mod.alloc ?_ _) | (with_reducible refine Mod.drew ?_) | (with_reducible refine Mod.drewN ?_ _))
  exact M.to_ext (by simp)

theorem mayV_zero {ep n : Int} {xs : List Int} {part dst : Int} (h : mayV ep n xs part dst = 0) :
    rightB ep n xs = true ∧ ep < 2147483647 ∧ 0 ≤ part ∧ part < xs.length ∧ 0 ≤ dst ∧ dst < n ∧ xs.getD part.toNat 0 ≠ dst := by
  unfold mayV at h
  split at h
  · cases h
  split at h
  · cases h
  split at h
  · cases h
  split at h
  · cases h
  · rename_i h1 h2 h3 h4
    cases hr : rightB ep n xs with
    | false => exact absurd (.inl hr) h1
    | true => exact ⟨rfl, by omega, by omega, by omega, by omega, by omega, h4⟩

theorem rightB_true {ep n : Int} {xs : List Int} (h : rightB ep n xs = true) :
    1 ≤ ep ∧ 1 ≤ n ∧ n ≤ 4 ∧ 1 ≤ xs.length ∧ xs.length ≤ 8 ∧ ∀ x ∈ xs, 0 ≤ x ∧ x < n := by
  simp only [rightB, Bool.and_eq_true, decide_eq_true_eq, Bool.not_eq_true'] at h
  obtain ⟨⟨⟨⟨⟨h1, h2⟩, h3⟩, h4⟩, h5⟩, h6⟩ := h
  refine ⟨h1, h2, h3, h4, h5, fun x hx => ?_⟩
  have := List.any_eq_false.1 h6 x hx
  simp only [badOwner, Bool.or_eq_true, decide_eq_true_eq] at this
  omega

/-- a store into a slice of ints that is owned -/
theorem IA.set {w : World} {g : Nat} {xs : List Int} (h : IA w g 0 xs) (p : Nat) (x : Int) (hp : p < xs.length) : IA (w.setCell ⟨g, p, none⟩ (i64 x)) g 0 (xs.set p x) := by
  intro i hi
  rw [List.length_set] at hi
  by_cases e : p = i
  · subst e
    rw [Nat.zero_add, World.cell?_setCell_same _ _ _ (u := i64 (xs.getD p 0)) (by have := h p hp; rwa [Nat.zero_add] at this)]
    simp [hp]
  · rw [World.cell?_setCell_other _ _ _ _ (by intro k; injection k with k1 k2; omega), h i hi]
    simp [List.getElem?_set, e]

/-- a table moved on -/
def MovedTable (ep n : Int) (xs : List Int) (w : World) (e : Ending) (w' : World) : Prop :=
  ∃ g cap, e = .returned (.tuple #[.agg #[i64 (ep + 1), i64 n, .slice (some ⟨g, 0, none⟩) xs.length cap], i64 0]) ∧ w.heap.size ≤ g ∧ g < w'.heap.size ∧ IA w' g 0 xs ∧ Ext w w'

theorem tmove_ok (ep n : Int) (b off cap : Nat) (xs : List Int) (part dst : Int) (w : World) (hl : xs.length ≤ 4096) (hx : IA w b off xs) (hm : mayV ep n xs part dst = 0) :
    Calls Tryz.prog 65 #[.agg #[i64 ep, i64 n, .slice (some ⟨b, off, none⟩) xs.length cap], i64 part, i64 dst] w
      (MovedTable ep n (xs.set part.toNat dst) w) := by
  have E1 : Ext w ((w.alloc (.cells #[i64 ep, i64 n, .slice (some ⟨b, off, none⟩) xs.length cap] 28)).alloc (.cells #[i64 0, i64 0, .slice none 0 0] 28)) := by (refine Mod.to_ext (S := []) ?_ (by simp); repeat (first | (with_reducible exact Mod.refl _ _) | (with_reducible assumption) | (with_reducible refine Mod.alloc ?_ _) | (with_reducible refine Mod.drew ?_) | (with_reducible refine Mod.drewN ?_ _)))
  have R := may_calls ep n b off cap xs part dst _ hl (hx.ext E1)
  rw [hm] at R
  obtain ⟨hr, h1, h2, h3, h4, h5, h6⟩ := mayV_zero hm
  obtain ⟨_, _, _, hr4, hr5, _⟩ := rightB_true hr
  obtain ⟨p, rfl⟩ := Int.eq_ofNat_of_zero_le h2
  clear hm h6 hr
  go_enter Tryz.func65, Tryz.ntmps65
  go_wp2_with fail
  refine R.mono ?_
  rintro e w1 ⟨rfl, hE⟩
  have hz := hE.size
  have B0 := ((Blk.new w [i64 ep, i64 n, .slice (some ⟨b, off, none⟩) xs.length cap] 28).old (.cells #[i64 0, i64 0, .slice none 0 0] 28)).ext hE
  have B1 := (Blk.new (w.alloc (.cells #[i64 ep, i64 n, .slice (some ⟨b, off, none⟩) xs.length cap] 28)) [i64 0, i64 0, .slice none 0 0] 28).ext hE
  obtain ⟨c0, f0⟩ := B0.read
  simp only [World.size_alloc] at hz B1
  go_wp2_with fail
  refine (copy_calls ep n b off cap xs w1 hl (hx.ext (E1.trans hE)) (by omega)).mono ?_
  rintro e w2 ⟨g, cap', rfl, ho, hE2⟩
  obtain ⟨g', cap2, heq, hg, hg2, hi, hf⟩ := ownsRow_IA ho (by omega)
  cases heq
  have hz2 := hE2.size
  clear c0 f0
  obtain ⟨c0, f0⟩ := (B0.ext hE2).read
  obtain ⟨c1, f1⟩ := (B1.ext hE2).read
  have hc := hi.at0 (i := p) (by omega)
  rw [Nat.zero_add] at hc
  have hfp := hf p
  have H := Lib.hid (ownsRow_same ho (fun _ _ => rfl))
  have n2 : ¬ w.heap.size = g := by omega
  have n4 : ¬ w.heap.size + 1 = g := by omega
  go_wp2_with fail
  refine bodyPost_ret (v := .tuple #[.agg #[i64 (ep + 1), i64 n, .slice (some ⟨g, 0, none⟩) xs.length cap'], i64 0]) (by simp [results, Tryz.results65, go_sem, c1, n4]) rfl ?_
  have hp : p < xs.length := by omega
  have i1 : IA ((((w2.setCell ⟨w.heap.size, 0, none⟩ (i64 ep)).setCell ⟨w.heap.size, 1, none⟩ (i64 n)).setCell ⟨w.heap.size, 2, none⟩ (.slice (some ⟨g, 0, none⟩) xs.length cap')).setCell ⟨w.heap.size, 0, none⟩ (i64 (ep + 1))) g 0 xs := by
    refine IA.mod (S := [w.heap.size]) hi ?_ (by simp; omega)
    repeat (first | (with_reducible exact Mod.refl _ _) | (with_reducible assumption) | (with_reducible refine Mod.setCell ?_ (by simp) _) | (with_reducible refine Mod.alloc ?_ _) | (with_reducible refine Mod.drew ?_) | (with_reducible refine Mod.drewN ?_ _))
  have i2 := i1.set p dst hp
  unfold MovedTable
  rw [Int.toNat_natCast]
  refine ⟨g, cap', ?_, ?_, ?_, ?_, ?_⟩
  · rw [List.length_set]
  · omega
  · simpa only [World.size_setCell] using hg2
  · refine IA.mod (S := [w.heap.size + 1]) i2 ?_ (by simp; omega)
    repeat (first | (with_reducible exact Mod.refl _ _) | (with_reducible assumption) | (with_reducible refine Mod.setCell ?_ (by simp) _) | (with_reducible refine Mod.alloc ?_ _) | (with_reducible refine Mod.drew ?_) | (with_reducible refine Mod.drewN ?_ _))
  · refine Mod.to_ext (S := [w.heap.size, w.heap.size + 1, g]) ?_ (by simp; omega)
    have M0 : Mod [w.heap.size, w.heap.size + 1, g] w w2 := Mod.of_ext (E1.trans (hE.trans hE2))
    repeat (first | (with_reducible exact Mod.refl _ _) | (with_reducible assumption) | (with_reducible refine Mod.setCell ?_ (by simp) _) | (with_reducible refine Mod.alloc ?_ _) | (with_reducible refine Mod.drew ?_) | (with_reducible refine Mod.drewN ?_ _))
end

section
attribute [local go_sem ↓] Go.wp_at_zero Go.wp_at_succ

/-- the owners of a new table -/
def firstOwners (nodes shards : Nat) : List Int := (List.range shards).map (fun i => ((i % nodes : Nat) : Int))

theorem firstOwners_succ (nodes k : Nat) : firstOwners nodes (k + 1) = firstOwners nodes k ++ [((k % nodes : Nat) : Int)] := by
  simp [firstOwners, List.range_succ]

theorem firstOwners_len (nodes k : Nat) : (firstOwners nodes k).length = k := by simp [firstOwners]

def NewTable2 (ep n : Int) (xs : List Int) (w : World) (e : Ending) (w' : World) : Prop :=
  ∃ g cap, e = .returned (.tuple #[.agg #[i64 ep, i64 n, .slice (some ⟨g, 0, none⟩) xs.length cap], i64 0]) ∧ IA w' g 0 xs ∧ w.heap.size ≤ g ∧ g < w'.heap.size ∧ Ext w w'

set_option maxRecDepth 100000 in
set_option maxHeartbeats 400000 in
theorem tnew_calls (nodes shards : Nat) (w : World) (h1 : 1 ≤ nodes) (h2 : nodes ≤ 4) (h3 : 1 ≤ shards) (h4 : shards ≤ 8) :
    Calls Tryz.prog 31 #[i64 nodes, i64 shards] w (NewTable2 1 nodes (firstOwners nodes shards) w) := by
  obtain ⟨i0, hi, hz0, hz1, hz2⟩ := info_parts info3
  go_enter Tryz.func31, Tryz.ntmps31
  go_wp2_with fail
  go_loopw [26] (fun i wr => ∃ (k : Nat) (v : Value), k ≤ shards ∧ i = i64 k ∧ Blk wr (w.heap.size + 1) [i64 1, i64 nodes, v] 28 ∧ Blk wr w.heap.size [i64 0, i64 0, .slice none 0 0] 28 ∧
      wr.ownsRow (w.heap.size + 2) 3 1 v k ((firstOwners nodes k).map i64) ∧ Ext w wr) (fun i _ => shards - (intOf i).toNat)
  case atStart => 
    refine ⟨0, _, Nat.zero_le _, rfl, Blk.at _ _ _ _ (by simp), (Blk.new w [i64 0, i64 0, .slice none 0 0] 28).old _, World.ownsRow_nil _ _ _ _, ?_⟩
    (refine Mod.to_ext (S := []) ?_ (by simp); repeat (first | (with_reducible exact Mod.refl _ _) | (with_reducible assumption) | (with_reducible refine Mod.alloc ?_ _) | (with_reducible refine Mod.drew ?_) | (with_reducible refine Mod.drewN ?_ _)))
  case round =>
    obtain ⟨k, v, hk, rfl, B1, B0, ho, hE⟩ := hrel
    obtain ⟨c1, f1⟩ := B1.read
    obtain ⟨c0, f0⟩ := B0.read
    by_cases hlt : k < shards
    · have hmod : ¬ (nodes : Int) = 0 := by omega
      have hn0 : ¬ nodes = 0 := by omega
      have ht : ((k : Int).tmod (nodes : Int)) = ((k % nodes : Nat) : Int) := by rw [Int.tmod_eq_emod_of_nonneg (by omega)]; simp
      have hL := B1.lt
      have hL2 : ¬ w.heap.size + 1 = wr.heap.size := by omega
      go_wp2_with fail
      have hob : ∀ j, v.ownBlock = some j → w.heap.size + 2 ≤ j := fun j hj => (ho.lt j hj).1
      have HO := Lib.hid ho
      have HB := Lib.hid hob
      clear ho hob
      have BB : ∀ (x y : World) (row : Option Nat), Blk x (w.heap.size + 1) [i64 1, i64 nodes, v] 28 → x.grownBy y row → v.ownBlock = row → Blk y (w.heap.size + 1) [i64 1, i64 nodes, v] 28   := fun x y row h hg e => h.grown hg (by rw [← e]; intro hh; have := HB.out _ hh.symm; omega)
      have HBB := Lib.hid BB; clear BB
      have B1' := Lib.hid B1; clear B1
      go_region_law ((refine step_append_lies _ (by rfl) _ _ 26 (by rfl) (w.heap.size + 2) 3 i0 (.int .i64 0) 1 8 Tryz.underlying26 hi hz0 hz1 hz2 (by rfl) (by omega) v k _ (by rfl) (by exact (HO.out.alloc _).drew) ⟨wr.heap.size, 0, none⟩ 1 1 [.int .i64 ((k % nodes : Nat) : Int)] (by rfl) (by rfl) (by intro j u hj; match j, hj with | 0, hj => (simp at hj; subst hj; simp [Addr.add])) (by intro u hu; simp at hu; subst hu; rfl) (by omega) (by unfold maxLen; omega) (by omega) (by simp; omega) _ rfl ?_; intro g cap w1 hown hgrow hat hlt; have B2 := HBB.out _ _ _ ((B1'.out.old _).drew) hgrow rfl; have c2 := B2.read.1 2; have f2 := B2.read.2 2; simp only [List.getElem?_cons_succ, List.getElem?_cons_zero] at c2))
      all_goals (go_wp2_with fail)
      all_goals
        go_roundw
        case rel =>
          have B1g := (HBB.out _ _ _ ((B1'.out.old (.cells #[.int .i64 ((k % nodes : Nat) : Int)] 3)).drew) hgrow rfl).set 2 (.slice (some ⟨g, 0, none⟩) (k + 1) cap)
          have B0g := (((B0.old (.cells #[.int .i64 ((k % nodes : Nat) : Int)] 3)).drew).grown hgrow (by intro hh; have := HB.out _ hh.symm; omega)).set_other ⟨w.heap.size + 1, 2, none⟩ (.slice (some ⟨g, 0, none⟩) (k + 1) cap) (by simp)
          have hg2 : w.heap.size + 2 ≤ g := (hown.lt g rfl).1
          have hown2 := ownsRow_setCell_other hown (a := ⟨w.heap.size + 1, 2, none⟩) (by intro hh; injection hh with hh; simp only at hh; omega) (.slice (some ⟨g, 0, none⟩) (k + 1) cap)
          have M : Mod [w.heap.size + 1] w (w1.setCell ⟨w.heap.size + 1, 2, none⟩ (.slice (some ⟨g, 0, none⟩) (k + 1) cap)) :=
            Mod.setCell (Mod.grown (Mod.drew (Mod.alloc (Mod.of_ext hE) (.cells #[.int .i64 ((k % nodes : Nat) : Int)] 3))) hgrow (by intro j hj; have := HB.out _ hj; right; omega)) (by simp) _
          refine ⟨k + 1, _, by omega, by go_num, B1g, B0g, ?_, M.to_ext (by simp)⟩
          rw [firstOwners_succ, List.map_append]
          exact hown2
        case measure => simp [intOf]; omega
    · have : k = shards := by omega
      subst this
      obtain ⟨g, cap, rfl, hb, hL⟩ := ho.form (by omega)
      go_wp2_with fail
      refine bodyPost_ret (v := .tuple #[.agg #[i64 1, i64 nodes, .slice (some ⟨g, 0, none⟩) k cap], i64 0]) (by simp [results, Tryz.results31, go_sem, c0]) rfl ?_
      have hi2 : IA wr g 0 (firstOwners nodes k) := by
        have ho2 : wr.ownsRow (w.heap.size + 2) 3 1 (.slice (some ⟨g, 0, none⟩) k cap) (firstOwners nodes k).length ((firstOwners nodes k).map i64) := by rw [firstOwners_len]; exact ho
        obtain ⟨g', cap', heq, _, _, hi, _⟩ := ownsRow_IA ho2 (by rw [firstOwners_len]; omega)
        have e : g = g' := by injection heq with h1 _ _; injection h1 with h1; injection h1 with h1
        rw [e]; exact hi
      unfold NewTable2
      refine ⟨g, cap, ?_, ?_, ?_, ?_, ?_⟩
      · rw [firstOwners_len]
      · refine IA.mod (S := [w.heap.size]) hi2 ?_ (by simp; omega)
        repeat (first | (with_reducible exact Mod.refl _ _) | (with_reducible assumption) | (with_reducible refine Mod.setCell ?_ (by simp) _) | (with_reducible refine Mod.alloc ?_ _) | (with_reducible refine Mod.drew ?_) | (with_reducible refine Mod.drewN ?_ _))
      · omega
      · simpa only [World.size_setCell] using hL
      · refine Mod.to_ext (S := [w.heap.size]) ?_ (by simp)
        have M0 : Mod [w.heap.size] w wr := Mod.of_ext hE
        repeat (first | (with_reducible exact Mod.refl _ _) | (with_reducible assumption) | (with_reducible refine Mod.setCell ?_ (by simp) _) | (with_reducible refine Mod.alloc ?_ _) | (with_reducible refine Mod.drew ?_) | (with_reducible refine Mod.drewN ?_ _))
end
end Go.Proofs.YtchmhkdnegngdaaGreat
