/- CoordKnown. -/
import Derived.Test.YtchmhkdnegngdaaGreatLd
set_option linter.unusedVariables false
set_option linter.unusedSimpArgs false
namespace Go.Proofs.YtchmhkdnegngdaaGreat
open Go.RowKit


theorem PRow.form {w : World} {v : Value} {p : Int × ByteArray} {ps : List (Int × ByteArray)} (h : PRow w v (p :: ps)) :
    ∃ g cap, v = .slice (some ⟨g, 0, none⟩) (ps.length + 1) cap ∧ g < w.heap.size ∧ w.cell? ⟨g, 1, none⟩ = some (i64 p.1) := by
  obtain ⟨hl, h2⟩ := h
  rcases h2 with ⟨_, h0⟩ | ⟨g, cap, cur, rfl, hb, hg, hn, hc, hs, ht⟩
  · simp at h0
  · refine ⟨g, cap, rfl, lt_of_block hg, ?_⟩
    have h1 : (cur.toList.take ((p :: ps).length * 3))[1]? = ((p :: ps).flatMap pcells)[1]? := by rw [ht]
    rw [List.getElem?_take, if_pos (by simp; omega)] at h1
    simp only [World.cell?, hg, Option.isSome_none, Bool.false_eq_true, if_false]
    rw [← Array.getElem?_toList, h1]
    simp [pcells]

theorem cell_stay {w w' : World} {K : List Nat} {g i : Nat} {u : Value} (h : w.cell? ⟨g, i, none⟩ = some u) (hS : Stay w w' K) (hg : g ∈ K) : w'.cell? ⟨g, i, none⟩ = some u :=
  (World.cell?_of_block (hS g hg)).trans h

theorem kn_order2 : aw1.order 0 1 = (aw1, 0, 20) := by decide +kernel
theorem kn_abort1 : aw1.abort 1 = (aw1, 4) := by decide +kernel
theorem kn_ready0 : aw1.handle 0 10 1 0 1 = (aw1, false) := by decide +kernel
theorem kn_abort0 : aw2.abort 0 = (aw2, 11) := by decide +kernel
theorem kn_again : aw3.handle 1 13 1 0 0 = (aw3, false) := by decide +kernel
theorem fine_aw1 : Fine aw1 := by constructor <;> (first | decide +kernel | (unfold sm; decide +kernel))
theorem fine_aw2 : Fine aw2 := by constructor <;> (first | decide +kernel | (unfold sm; decide +kernel))
theorem tick_aw1 : ∃ d ps, aw1.tick = (0, d) :: ps ∧ ps.length = 6 := ⟨_, _, rfl, by simp; rfl⟩
theorem tick_aw2 : ∃ d ps, aw2.tick = (1, d) :: ps ∧ ps.length = 6 := ⟨_, _, rfl, by simp; rfl⟩
end Go.Proofs.YtchmhkdnegngdaaGreat
