/- msg.Same at two messages alike. -/
import Derived.Test.YtchmhkdnegngdaaGreatRd
import Derived.Test.YtchmhkdnegngdaaGreatTb
set_option linter.unusedVariables false
set_option linter.unusedSimpArgs false
namespace Go.Proofs.YtchmhkdnegngdaaGreat
open Go.RowKit


abbrev zitem : Value := .agg #[i64 0, i64 0, i64 0, u8 0, .string ⟨#[]⟩, i64 0, i64 0, i64 0]
theorem eq38 (w : World) : (binOp .eql 38 zitem zitem).run Tryz.prog w = .ok (.bool true) w := by kernel_rfl

theorem equal_nil (w : World) : Calls Tryz.prog 54 #[.slice none 0 0, .slice none 0 0] w fun e w' => e = .returned (.bool true) ∧ w = w' := by
  go_enter Tryz.func54, Tryz.ntmps54
  go_wp2_with fail
  go_loopw [13] (fun i wr => i = i64 0 ∧ wr = w) (fun _ _ => 0)
  case atStart => exact ⟨rfl, rfl⟩
  case round =>
    obtain ⟨rfl, rfl⟩ := hrel
    go_wp2_with fail
    go_ret
    exact ⟨rfl, rfl⟩

theorem equal_sl (o1 o2 : Value) (xs : List Int) (w : World) (h1 : Sl w o1 xs) (h2 : Sl w o2 xs) (hl : xs.length ≤ 4096) :
    Calls Tryz.prog 54 #[o1, o2] w fun e w' => e = .returned (.bool true) ∧ Ext w w' := by
  rcases h1 with ⟨h0, rfl⟩ | ⟨h0, b1, p1, k1, rfl, i1⟩
  · rcases h2 with ⟨_, rfl⟩ | ⟨h3, _⟩
    · exact (equal_nil w).mono (fun e w' h => ⟨h.1, by rw [← h.2]; exact Below.refl _ _⟩)
    · exact (h3 h0).elim
  · rcases h2 with ⟨h3, _⟩ | ⟨_, b2, p2, k2, rfl, i2⟩
    · exact (h0 h3).elim
    · refine (equal_calls b1 p1 k1 b2 p2 k2 xs xs w hl hl i1 i2).mono ?_
      rintro e w' ⟨rfl, hE⟩
      exact ⟨by simp [eqB], hE⟩

set_option maxRecDepth 100000 in
set_option maxHeartbeats 1600000 in
theorem same_calls (m : Ms) (o1 o2 : Value) (w : World) (h1 : Sl w o1 (ints m.owners)) (h2 : Sl w o2 (ints m.owners)) (hl : m.owners.length ≤ 64) :
    Calls Tryz.prog 110 #[.agg (m.cells o1).toArray, .agg (m.cells o2).toArray] w fun e w' => e = .returned (.bool true) ∧ Ext w w' := by
  obtain ⟨k, mv, part, dst, ep, n, hcells⟩ : ∃ k mv part dst ep n, ∀ o, m.cells o = mcells k mv part dst ep n o (.slice none 0 0) := by
    cases m <;> exact ⟨_, _, _, _, _, _, fun _ => rfl⟩
  rw [hcells, hcells]
  have hE2 : Ext w ((w.alloc (.cells (mcells k mv part dst ep n o1 (.slice none 0 0)).toArray 40)).alloc (.cells (mcells k mv part dst ep n o2 (.slice none 0 0)).toArray 40)) := by (refine Mod.to_ext (S := []) ?_ (by simp); repeat (first | (with_reducible exact Mod.refl _ _) | (with_reducible assumption) | (with_reducible refine Mod.alloc ?_ _) | (with_reducible refine Mod.drew ?_) | (with_reducible refine Mod.drewN ?_ _)))
  have b1 : Blk ((w.alloc (.cells (mcells k mv part dst ep n o1 (.slice none 0 0)).toArray 40)).alloc (.cells (mcells k mv part dst ep n o2 (.slice none 0 0)).toArray 40)) w.heap.size (mcells k mv part dst ep n o1 (.slice none 0 0)) 40 := (Blk.new w _ 40).old _
  have b2 : Blk ((w.alloc (.cells (mcells k mv part dst ep n o1 (.slice none 0 0)).toArray 40)).alloc (.cells (mcells k mv part dst ep n o2 (.slice none 0 0)).toArray 40)) (w.heap.size + 1) (mcells k mv part dst ep n o2 (.slice none 0 0)) 40 := Blk.at _ _ 40 _ (by simp)
  have s1 := h1.ext hE2
  have s2 := h2.ext hE2
  have R := fun w' => fun (hw : Ext ((w.alloc (.cells (mcells k mv part dst ep n o1 (.slice none 0 0)).toArray 40)).alloc (.cells (mcells k mv part dst ep n o2 (.slice none 0 0)).toArray 40)) w') => equal_sl o1 o2 (ints m.owners) w' (s1.ext hw) (s2.ext hw) (by rw [ints_len]; omega)
  have HR := Lib.hid R
  have HE := Lib.hid hE2
  clear R s1 s2 hE2 h1 h2 hcells
  unfold mcells
  simp only [mcells] at b1 b2 HR HE
  have hq := eq38
  go_enter Tryz.func110, Tryz.ntmps110
  go_wp2_with fail
  revert b1 b2 HR HE
  generalize hN : w.heap.size = N
  generalize hW : World.alloc _ (.cells #[u8 k, i64 mv, i64 part, i64 dst, i64 0, i64 0, i64 0, u64 0, i64 0, i64 0, i64 0, i64 0, u8 0, .string ⟨#[]⟩, i64 0, i64 0, i64 0, i64 ep, i64 n, o2, .slice none 0 0, .string ⟨#[]⟩] 40) = W
  clear hW
  intro b1 b2 HR HE
  refine (equal_nil W).mono ?_
  rintro e w' ⟨rfl, rfl⟩
  obtain ⟨c1, f1⟩ := b1.read
  obtain ⟨c2, f2⟩ := b2.read
  have H1 := Lib.hid b1
  have H2 := Lib.hid b2
  clear b1 b2
  have R := HR.out W (Below.refl _ _)
  go_wp2_with fail
  refine R.mono ?_
  rintro e w3 ⟨rfl, hE3⟩
  obtain ⟨d1, g1⟩ := (H1.out.ext hE3).read
  obtain ⟨d2, g2⟩ := (H2.out.ext hE3).read
  have HE3 := Lib.hid hE3
  clear c1 f1 c2 f2 R hE3
  go_wp2_with fail
  go_ret
  exact ⟨rfl, HE.out.trans HE3.out⟩
end Go.Proofs.YtchmhkdnegngdaaGreat
