/- The functions of package table: what each call returns. -/
import Derived.Test.YtchmhkdnegngdaaGreatB
set_option linter.unusedVariables false
set_option linter.unusedSimpArgs false
namespace Go.Proofs.YtchmhkdnegngdaaGreat
open Go.RowKit

/-- a number that no node has -/
def badOwner (n x : Int) : Bool := decide (x < 0) || decide (n ≤ x)

theorem any_take_succ {α : Type} (p : α → Bool) (xs : List α) (k : Nat) (h : k < xs.length) :
    (xs.take (k + 1)).any p = ((xs.take k).any p || p xs[k]) := by
  rw [List.take_succ_eq_append_getElem h, List.any_append]; simp

theorem any_of_at {α : Type} (p : α → Bool) (xs : List α) (k : Nat) (h : k < xs.length) (hp : p xs[k] = true) : xs.any p = true := by
  rw [List.any_eq_true]; exact ⟨xs[k], List.getElem_mem h, hp⟩

theorem right1 (x : Int) (n : Int) (b : Nat) (w : World) (hb : w.cell? ⟨b, 1, none⟩ = some (i64 n)) :
    Calls Tryz.prog 58 #[i64 x, .pointer (some ⟨b, 0, none⟩)] w fun e w' => e = .returned (.bool (badOwner n x)) ∧ w = w' := by
  unfold badOwner
  by_cases h : x < 0
  · go_enter Tryz.func58, Tryz.ntmps58
    go_wp2
    go_ret
    exact ⟨by simp [h], rfl⟩
  · go_enter Tryz.func58, Tryz.ntmps58
    go_wp2
    go_ret
    exact ⟨by simp [h]; omega, rfl⟩

def SignSays (c : Bool) (w : World) (e : Ending) (w' : World) : Prop := (∃ r : Int, e = .returned (i64 r) ∧ decide (0 ≤ r) = c) ∧ w = w'

/-- IndexFunc -/
theorem indexFunc (b off cap : Nat) (xs : List Int) (n : Int) (bt : Nat) (w : World) (hl : xs.length ≤ 4096)
    (hx : IA w b off xs) (hb : w.cell? ⟨bt, 1, none⟩ = some (i64 n)) :
    Calls Tryz.prog 75 #[.slice (some ⟨b, off, none⟩) xs.length cap, .func (.func 58) #[] #[.pointer (some ⟨bt, 0, none⟩)]] w
      (SignSays (xs.any (badOwner n)) w) := by
  go_enter Tryz.func75, Tryz.ntmps75
  go_wp2
  go_loop [8] (fun i => ∃ k : Nat, k ≤ xs.length ∧ i = i64 k ∧ (xs.take k).any (badOwner n) = false) (fun i => xs.length - (intOf i).toNat)
  case atStart => exact ⟨0, Nat.zero_le _, rfl, by simp⟩
  case round =>
    obtain ⟨k, hk, rfl, hpre⟩ := hrel
    have H := Lib.hid hpre
    clear hpre
    by_cases hlt : k < xs.length
    · have hc := hx.at hlt
      go_wp2_with (go_at_call 58; refine (right1 _ n _ _ (by assumption)).mono ?_; rintro e w' ⟨rfl, rfl⟩)
      · go_ret
        have hp : badOwner n xs[k] = true := by assumption
        exact ⟨⟨k, rfl, by rw [any_of_at _ _ k hlt hp]; simp⟩, rfl⟩
      · have hp : badOwner n xs[k] = false := by assumption
        go_round
        case rel => exact ⟨k + 1, by omega, by go_num, by rw [any_take_succ _ _ _ hlt, H.out, hp]; rfl⟩
        case measure => simp [intOf]; omega
    · go_wp2
      go_ret
      refine ⟨⟨-1, rfl, ?_⟩, rfl⟩
      have := H.out
      rw [List.take_of_length_le (by omega)] at this
      rw [this]; rfl

theorem containsFunc (b off cap : Nat) (xs : List Int) (n : Int) (bt : Nat) (w : World) (hl : xs.length ≤ 4096)
    (hx : IA w b off xs) (hb : w.cell? ⟨bt, 1, none⟩ = some (i64 n)) :
    Calls Tryz.prog 57 #[.slice (some ⟨b, off, none⟩) xs.length cap, .func (.func 58) #[] #[.pointer (some ⟨bt, 0, none⟩)]] w
      fun e w' => e = .returned (.bool (xs.any (badOwner n))) ∧ w = w' := by
  go_enter Tryz.func57, Tryz.ntmps57
  go_wp2_with fail
  refine (indexFunc b off cap xs n bt w hl hx hb).mono ?_
  rintro e w' ⟨⟨r, rfl, hr⟩, rfl⟩
  have H := Lib.hid hr
  clear hr
  go_wp2
  go_ret
  exact ⟨by rw [← H.out]; simp, rfl⟩

/-- what Right says -/
def rightB (ep n : Int) (xs : List Int) : Bool :=
  decide (1 ≤ ep) && decide (1 ≤ n) && decide (n ≤ 4) && decide (1 ≤ xs.length) && decide (xs.length ≤ 8) && !xs.any (badOwner n)

theorem right_calls (ep n : Int) (b off cap : Nat) (xs : List Int) (w : World) (hl : xs.length ≤ 4096) (hx : IA w b off xs) :
    Calls Tryz.prog 39 #[.agg #[i64 ep, i64 n, .slice (some ⟨b, off, none⟩) xs.length cap]] w
      fun e w' => e = .returned (.bool (rightB ep n xs)) ∧ w.alloc (.cells #[i64 ep, i64 n, .slice (some ⟨b, off, none⟩) xs.length cap] 28) = w' := by
  have hx1 : IA (w.alloc (.cells #[i64 ep, i64 n, .slice (some ⟨b, off, none⟩) xs.length cap] 28)) b off xs :=
    hx.ext ((Below.refl _ _).alloc (Nat.le_refl _) _)
  by_cases h1 : 1 ≤ ep
  case neg =>
    have hv : rightB ep n xs = false := by simp only [rightB, decide_eq_false h1, Bool.false_and, Bool.and_false]
    go_enter Tryz.func39, Tryz.ntmps39
    go_wp2; go_ret; exact ⟨rfl, rfl⟩
  by_cases h2 : 1 ≤ n
  case neg =>
    have hv : rightB ep n xs = false := by simp only [rightB, decide_eq_false h2, Bool.false_and, Bool.and_false]
    go_enter Tryz.func39, Tryz.ntmps39
    go_wp2; go_ret; exact ⟨rfl, rfl⟩
  by_cases h3 : n ≤ 4
  case neg =>
    have hv : rightB ep n xs = false := by simp only [rightB, decide_eq_false h3, Bool.false_and, Bool.and_false]
    go_enter Tryz.func39, Tryz.ntmps39
    go_wp2; go_ret; exact ⟨rfl, rfl⟩
  by_cases h4 : 1 ≤ xs.length
  case neg =>
    have hv : rightB ep n xs = false := by simp only [rightB, decide_eq_false h4, Bool.false_and, Bool.and_false]
    go_enter Tryz.func39, Tryz.ntmps39
    go_wp2; go_ret; exact ⟨rfl, rfl⟩
  by_cases h5 : xs.length ≤ 8
  case neg =>
    have hv : rightB ep n xs = false := by simp only [rightB, decide_eq_false h5, Bool.false_and, Bool.and_false]
    go_enter Tryz.func39, Tryz.ntmps39
    go_wp2; go_ret; exact ⟨rfl, rfl⟩
  go_enter Tryz.func39, Tryz.ntmps39
  go_wp2_with fail
  refine (containsFunc b off cap xs n _ _ hl hx1 (by simp [go_sem])).mono ?_
  rintro e w' ⟨rfl, rfl⟩
  go_wp2; go_ret; exact ⟨by simp [rightB, h1, h2, h3, h4, h5], rfl⟩


/-- Clone of nothing -/
theorem clone_nil (w : World) : Calls Tryz.prog 59 #[.slice none 0 0] w fun e w' => e = .returned (.slice none 0 0) ∧ w = w' := by
  have q26 : ∀ (w : World) (a : Option Addr) (n c n' c' : Nat), (binOp .eql 26 (.slice a n c) (.slice none n' c')).run Tryz.prog w = .ok (.bool a.isNone) w := fun w a n c n' c' => Lib.run_eql_slice_nil w _ _ a n c n' c' Tryz.underlying26
  go_enter Tryz.func59, Tryz.ntmps59
  go_wp2
  go_ret
  exact ⟨rfl, rfl⟩

theorem clone_calls (b off cap : Nat) (xs : List Int) (w : World) (hl : xs.length ≤ 4096) (hx : IA w b off xs) :
    Calls Tryz.prog 59 #[.slice (some ⟨b, off, none⟩) xs.length cap] w fun e w' =>
      ∃ v, e = .returned v ∧ w'.ownsRow w.heap.size 3 1 v xs.length (xs.map i64) ∧ Ext w w' := by
  have q26 : ∀ (w : World) (a : Option Addr) (n c n' c' : Nat), (binOp .eql 26 (.slice a n c) (.slice none n' c')).run Tryz.prog w = .ok (.bool a.isNone) w := fun w a n c n' c' => Lib.run_eql_slice_nil w _ _ a n c n' c' Tryz.underlying26
  obtain ⟨i0, hi, hz0, hz1, hz2⟩ := info_parts info3
  have hx1 : IA (w.alloc (.cells #[] 3)) b off xs := hx.ext ((Below.refl _ _).alloc (Nat.le_refl _) _)
  have hown : (w.alloc (.cells #[] 3)).ownsRow w.heap.size 3 1 (.slice (some ⟨w.heap.size, 0, none⟩) 0 0) 0 [] := World.ownsRow_made w #[] 0 (Nat.le_refl _) (by decide) rfl
  go_enter Tryz.func59, Tryz.ntmps59
  go_wp2_with (at_builtin; refine wpList_append_own _ rfl _ _ 26 rfl w.heap.size 3 i0 (.int .i64 0) 1 8 Tryz.underlying26 hi hz0 hz1 hz2 rfl (by decide) _ _ _ rfl hown ⟨b, off, none⟩ xs.length cap (xs.map i64) rfl (by simp) hx1.news (map_i64_one _) (by unfold maxLen; omega) (by omega) (by simp) ?_)
  intro v' w1 hown1 hg _
  have hE : Ext w w1 := ((Below.refl _ _).alloc (Nat.le_refl _) _).grown hg (by simp) (by intro k hk; cases hk; exact Nat.le_refl _)
  have HO := Lib.hid hown1
  clear hown1 hg hown hx1
  go_wp2
  go_ret
  refine ⟨v', rfl, ?_, hE⟩
  have := HO.out
  simpa using this

def eqB (xs ys : List Int) : Bool := decide (xs = ys)

theorem take_succ_eq {α : Type} {xs ys : List α} {k : Nat} (h1 : k < xs.length) (h2 : k < ys.length) (h : xs.take k = ys.take k) (he : xs[k] = ys[k]) : xs.take (k + 1) = ys.take (k + 1) := by
  rw [List.take_succ_eq_append_getElem h1, List.take_succ_eq_append_getElem h2, h, he]

theorem equal_calls (b off cap b2 off2 cap2 : Nat) (xs ys : List Int) (w : World) (hl : xs.length ≤ 4096) (hl2 : ys.length ≤ 4096) (hx : IA w b off xs) (hy : IA w b2 off2 ys) :
    Calls Tryz.prog 54 #[.slice (some ⟨b, off, none⟩) xs.length cap, .slice (some ⟨b2, off2, none⟩) ys.length cap2] w
      fun e w' => e = .returned (.bool (eqB xs ys)) ∧ Ext w w' := by
  by_cases h0 : xs.length = ys.length
  case neg =>
    have hv : eqB xs ys = false := by unfold eqB; rw [decide_eq_false]; intro h; exact h0 (by rw [h])
    have H := Lib.hid hv; clear hv
    go_enter Tryz.func54, Tryz.ntmps54
    go_wp2
    go_ret
    exact ⟨by rw [H.out]; rfl, Below.refl _ _⟩
  have H0 := Lib.hid h0
  go_enter Tryz.func54, Tryz.ntmps54
  go_wp2
  go_loopw [13] (fun i wr => ∃ k : Nat, k ≤ xs.length ∧ i = i64 k ∧ (xs.take k) = ys.take k ∧ Ext w wr) (fun i _ => xs.length - (intOf i).toNat)
  case atStart => exact ⟨0, Nat.zero_le _, rfl, by simp, Below.refl _ _⟩
  case round =>
    obtain ⟨k, hk, rfl, hpre, hE⟩ := hrel
    have H := Lib.hid hpre
    clear hpre
    by_cases hlt : k < xs.length
    · have hc := (hx.ext hE).at hlt
      have hc2 := (hy.ext hE).at (show k < ys.length by omega)
      by_cases he : xs[k] = ys[k]'(by omega)
      · have Q : (xs[k] != ys[k]'(by omega)) = false := by rw [he]; simp
        have HE := Lib.hid he
        clear he
        go_wp2_with fail
        go_quiet (fail)
        go_wp2
        go_roundw
        case rel => exact ⟨k + 1, by omega, by go_num, take_succ_eq _ _ H.out HE.out, below_drewN hE _⟩
        case measure => simp [intOf]; omega
      · have Q : (xs[k] != ys[k]'(by omega)) = true := by simpa using he
        have HE := Lib.hid he
        clear he
        go_wp2_with fail
        go_quiet (fail)
        go_wp2
        go_ret
        refine ⟨?_, below_drewN hE _⟩
        have hv : eqB xs ys = false := by
          unfold eqB; rw [decide_eq_false]; intro h; subst h; exact HE.out rfl
        rw [hv]; rfl
    · go_wp2
      go_ret
      refine ⟨?_, hE⟩
      have := H.out
      rw [List.take_of_length_le (by omega), List.take_of_length_le (by omega)] at this
      unfold eqB; rw [decide_eq_true this]; rfl

end Go.Proofs.YtchmhkdnegngdaaGreat
