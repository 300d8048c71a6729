/- Entries of the book: plain facts on their order (insertion sort). -/
import Derived.Test.YtchmhkdnegngdaaGreatGB
set_option linter.unusedVariables false
set_option linter.unusedSimpArgs false
namespace Go.Proofs.YtchmhkdnegngdaaGreat
open Go.RowKit

section
/-- an entry of the book -/
structure Ent where
  mv : Int
  part : Int
  fr : Int
  dst : Int
deriving DecidableEq

def mvAt (es : List Ent) (p : Nat) : Int := (es.getD p ⟨0, 0, 0, 0⟩).mv

theorem mvAt_eq {es : List Ent} {p : Nat} (h : p < es.length) : mvAt es p = (es[p]).mv := by simp [mvAt, h]

def SortedTo (k : Nat) (xs : List Ent) : Prop := ∀ p q, p < q → q < k → mvAt xs p ≤ mvAt xs q
def InsInv (k m : Nat) (ys : List Ent) : Prop := ∀ p q, p < q → q ≤ k → q ≠ m → mvAt ys p ≤ mvAt ys q

/-- neighbours exchanged -/
def swapAt (ys : List Ent) (m : Nat) : List Ent := (ys.set m (ys.getD (m - 1) ⟨0, 0, 0, 0⟩)).set (m - 1) (ys.getD m ⟨0, 0, 0, 0⟩)

theorem swapAt_perm (ys : List Ent) (m : Nat) (h1 : 1 ≤ m) (h2 : m < ys.length) : (swapAt ys m).Perm ys := by
  obtain ⟨j, rfl⟩ : ∃ j, m = j + 1 := ⟨m - 1, by omega⟩
  have hsplit : ys = ys.take j ++ ys[j] :: ys[j + 1] :: ys.drop (j + 2) := by
    conv => lhs; rw [← List.take_append_drop j ys]
    rw [List.drop_eq_getElem_cons (by omega), List.drop_eq_getElem_cons (by omega)]
  have hs : swapAt ys (j + 1) = ys.take j ++ ys[j + 1] :: ys[j] :: ys.drop (j + 2) := by
    clear hsplit
    unfold swapAt
    apply List.ext_getElem?
    intro i
    rcases Nat.lt_trichotomy i j with hi | hi | hi
    · have n1 : ¬ j = i := by omega
      have n2 : ¬ j + 1 = i := by omega
      rw [List.getElem?_append_left (by rw [List.length_take]; omega)]
      simp [List.getElem?_set, n1, n2, hi]
    · subst hi
      rw [List.getElem?_append_right (by rw [List.length_take]; omega)]
      have : i - (List.take i ys).length = 0 := by rw [List.length_take]; omega
      rw [this]
      simp [List.getElem?_set, h2]
      omega
    · rw [List.getElem?_append_right (by rw [List.length_take]; omega)]
      have hlen : (List.take j ys).length = j := by rw [List.length_take]; omega
      rw [hlen]
      by_cases hi2 : i = j + 1
      · subst hi2
        have : j + 1 - j = 0 + 1 := by omega
        rw [this]
        have h3 : j < ys.length := by omega
        simp [List.getElem?_set, h2, h3]
      · obtain ⟨t, rfl⟩ : ∃ t, i = j + 2 + t := ⟨i - (j + 2), by omega⟩
        have : j + 2 + t - j = t + 1 + 1 := by omega
        rw [this]
        have n1 : ¬ j = j + 2 + t := by omega
        have n2 : ¬ j + 1 = j + 2 + t := by omega
        simp [List.getElem?_set, n1, n2]
  rw [hs]
  conv => rhs; rw [hsplit]
  exact List.Perm.append_left _ (List.Perm.swap _ _ _)

theorem mvAt_swapAt (ys : List Ent) (m : Nat) (h1 : 1 ≤ m) (h2 : m < ys.length) (p : Nat) :
    mvAt (swapAt ys m) p = if p = m then mvAt ys (m - 1) else if p = m - 1 then mvAt ys m else mvAt ys p := by
  unfold mvAt swapAt
  simp only [List.getD_eq_getElem?_getD, List.getElem?_set, List.length_set]
  by_cases hp : p = m
  · subst hp
    rw [if_neg (by omega), if_pos rfl, if_pos h2, if_pos rfl]; rfl
  · rw [if_neg hp]
    by_cases hq : p = m - 1
    · subst hq
      rw [if_pos rfl, if_pos rfl, if_pos (by omega)]; rfl
    · rw [if_neg hq, if_neg (by omega), if_neg (by omega)]

theorem InsInv.start {k : Nat} {xs : List Ent} (h : SortedTo k xs) : InsInv k k xs := fun p q h1 h2 h3 => h p q h1 (by omega)

theorem InsInv.step {k m : Nat} {ys : List Ent} (h : InsInv k m ys) (h1 : 1 ≤ m) (hk : m ≤ k) (h2 : m < ys.length) (hlt : mvAt ys m < mvAt ys (m - 1)) : InsInv k (m - 1) (swapAt ys m) := by
  intro p q hpq hq hne
  rw [mvAt_swapAt ys m h1 h2, mvAt_swapAt ys m h1 h2]
  by_cases a : p = m
  · rw [if_pos a, if_neg (by omega), if_neg (by omega)]
    exact h (m - 1) q (by omega) hq (by omega)
  · rw [if_neg a]
    by_cases b : p = m - 1
    · rw [if_pos b]
      by_cases c : q = m
      · rw [if_pos c]; omega
      · rw [if_neg c, if_neg hne]; exact h m q (by omega) hq c
    · rw [if_neg b]
      by_cases c : q = m
      · rw [if_pos c]; exact h p (m - 1) (by omega) (by omega) (by omega)
      · rw [if_neg c, if_neg hne]; exact h p q hpq hq c

theorem InsInv.stop {k m : Nat} {ys : List Ent} (h : InsInv k m ys) (hs : m = 0 ∨ mvAt ys (m - 1) ≤ mvAt ys m) : SortedTo (k + 1) ys := by
  intro p q hpq hq
  by_cases c : q = m
  · subst c
    rcases hs with rfl | hs
    · omega
    · by_cases d : p = q - 1
      · subst d; exact hs
      · have := h p (q - 1) (by omega) (by omega) (by omega); omega
  · exact h p q hpq (by omega) c

theorem SortedTo.pairwise {xs : List Ent} (h : SortedTo xs.length xs) : xs.Pairwise (fun x y => x.mv ≤ y.mv) := by
  rw [List.pairwise_iff_getElem]
  intro i j hi hj hij
  have := h i j hij hj
  rwa [mvAt_eq hi, mvAt_eq hj] at this
end
end Go.Proofs.YtchmhkdnegngdaaGreat
