/- msg.walk: commit, table. -/
import Derived.Test.YtchmhkdnegngdaaGreatGWa
set_option linter.unusedVariables false
set_option linter.unusedSimpArgs false
namespace Go.Proofs.YtchmhkdnegngdaaGreat
open Go.RowKit

section
set_option maxRecDepth 100000 in
set_option maxHeartbeats 800000 in
theorem walk_commit (K : Wk) (mb : Nat) (k mv part dst ep n mv' part' : Int) (o s : Value) (w : World) (own : List Nat) (g g1 g2 g3 : List UInt8) (hS : K.St w own g) (hb : Blk w mb (mcells k mv part dst ep n o s) 40) (hne : mb ∉ own)
    (h0 : K.Byt g k g1 11) (h1 : K.Num g1 mv g2 mv') (h2 : K.Num g2 part g3 part') (Q : Ending → World → Prop)
    (hQ : ∀ w2, Nums2 K mb w own g3 (mcells 11 mv' part' dst ep n o s) w2 → Calls Tryz.prog 94 #[.iface K.T (.pointer (some ⟨K.ob, 0, none⟩)), .pointer (some ⟨mb, 17, none⟩)] w2 (fun e w3 => e = .returned (.tuple #[]) ∧ Q e w3)) :
    Calls Tryz.prog 73 #[.iface K.T (.pointer (some ⟨K.ob, 0, none⟩)), .pointer (some ⟨mb, 0, none⟩)] w Q := by
  have hlt := hb.lt
  have R1 := K.byte_calls (w := w.drew) (pj := 0) (K.st_ext hS (Mod.refl [] w).drew) h0 hb.drew rfl hne
  have n0 := K.nilByte
  have m0 := K.metByte
  have n1 := K.nilNum
  have m1 := K.metNum
  have R2 := fun (w1 : World) (own1 : List Nat) (hS1 : K.St w1 own1 g1) (hb1 : Blk w1 mb (mcells 11 mv part dst ep n o s) 40) (hne1 : mb ∉ own1) => K.num_calls (w := w1.drew) (pj := 1) (K.st_ext hS1 ((Mod.refl [] w1).drew)) h1 hb1.drew rfl hne1
  have R3 := fun (w1 : World) (own1 : List Nat) (hS1 : K.St w1 own1 g2) (hb1 : Blk w1 mb (mcells 11 mv' part dst ep n o s) 40) (hne1 : mb ∉ own1) => K.num_calls (w := w1.drew) (pj := 2) (K.st_ext hS1 ((Mod.refl [] w1).drew)) h2 hb1.drew rfl hne1
  have HR2 := Lib.hid R2
  have HR3 := Lib.hid R3
  clear R2 R3
  rcases K.which with ⟨e1, e2, e3⟩ | ⟨e1, e2, e3⟩ <;> rw [e2] at R1 m0 <;> simp only [e1] at m1 HR2 HR3 <;> clear e1 e2 e3
  all_goals
  go_enter Tryz.func73, Tryz.ntmps73
  go_wp2_with fail
  go_region_held3 (fun _ => True) (exact True.intro) (with_reducible refine R1.mono ?_; intro e w1 q0; unfold Took at q0; obtain ⟨rfl, own1, hS1, hb1, hM1, hO1⟩ := q0)
  have hb1 : Blk w1 mb (mcells 11 mv part dst ep n o s) 40 := hb1
  have hM1 := hM1.undrew
  have hlt1 := hb1.lt
  have hne1 : mb ∉ own1 := not_own hlt hne hO1
  have R2 := HR2.out w1 own1 hS1 hb1 hne1
  obtain ⟨c1, f1⟩ := hb1.read
  have ck := c1 0
  simp only [mcells, List.getElem?_cons_zero] at ck
  clear R1 c1 f1
  go_wp2_with fail
  go_region_held3 (fun _ => True) (exact True.intro) (with_reducible refine R2.mono ?_; intro e w2 q0; unfold Took at q0; obtain ⟨rfl, own2, hS2, hb2, hM2, hO2⟩ := q0)
  have hb2 : Blk w2 mb (mcells 11 mv' part dst ep n o s) 40 := hb2
  have hM2 := mod_step hM1 hM2.undrew hO1
  have hlt2 := hb2.lt
  have hO2 : ∀ k ∈ own2, k ∈ own ∨ w.heap.size ≤ k := own_step hM1.size hO1 hO2
  have hne2 : mb ∉ own2 := not_own hlt hne hO2
  have R3 := HR3.out w2 own2 hS2 hb2 hne2
  clear R2 ck
  go_wp2_with fail
  go_region_held3 (fun _ => True) (exact True.intro) (with_reducible refine R3.mono ?_; intro e w3 q0; unfold Took at q0; obtain ⟨rfl, own3, hS3, hb3, hM3, hO3⟩ := q0)
  have hb3 : Blk w3 mb (mcells 11 mv' part' dst ep n o s) 40 := hb3
  have hM3 := mod_step hM2 hM3.undrew hO2
  have hlt3 := hb3.lt
  have hO3 : ∀ k ∈ own3, k ∈ own ∨ w.heap.size ≤ k := own_step hM2.size hO2 hO3
  obtain ⟨c3, f3⟩ := hb3.read
  have ck := c3 0
  simp only [mcells, List.getElem?_cons_zero] at ck
  have R4 := hQ w3 ⟨own3, hS3, hb3, hM3, hO3⟩
  clear R3 c3 f3 HR2 HR3 hQ
  go_wp2_with fail
  refine R4.mono ?_
  rintro e w4 ⟨rfl, hq⟩
  go_wp2_with fail
  first | go_end0 | refine bodyPost_ret (results_none rfl _ _ _) rfl ?_
  exact hq

set_option maxRecDepth 100000 in
set_option maxHeartbeats 800000 in
theorem walk_table (K : Wk) (mb : Nat) (k mv part dst ep n : Int) (o s : Value) (w : World) (own : List Nat) (g g1 : List UInt8) (hS : K.St w own g) (hb : Blk w mb (mcells k mv part dst ep n o s) 40) (hne : mb ∉ own)
    (h0 : K.Byt g k g1 14) (Q : Ending → World → Prop)
    (hQ : ∀ w2, Nums2 K mb w own g1 (mcells 14 mv part dst ep n o s) w2 → Calls Tryz.prog 94 #[.iface K.T (.pointer (some ⟨K.ob, 0, none⟩)), .pointer (some ⟨mb, 17, none⟩)] w2 (fun e w3 => e = .returned (.tuple #[]) ∧ Q e w3)) :
    Calls Tryz.prog 73 #[.iface K.T (.pointer (some ⟨K.ob, 0, none⟩)), .pointer (some ⟨mb, 0, none⟩)] w Q := by
  have hlt := hb.lt
  have R1 := K.byte_calls (w := w.drew) (pj := 0) (K.st_ext hS (Mod.refl [] w).drew) h0 hb.drew rfl hne
  have n0 := K.nilByte
  have m0 := K.metByte
  rcases K.which with ⟨e1, e2, e3⟩ | ⟨e1, e2, e3⟩ <;> rw [e2] at R1 m0 <;> clear e1 e2 e3
  all_goals
  go_enter Tryz.func73, Tryz.ntmps73
  go_wp2_with fail
  go_region_held3 (fun _ => True) (exact True.intro) (with_reducible refine R1.mono ?_; intro e w1 q0; unfold Took at q0; obtain ⟨rfl, own1, hS1, hb1, hM1, hO1⟩ := q0)
  have hb1 : Blk w1 mb (mcells 14 mv part dst ep n o s) 40 := hb1
  have hM1 := hM1.undrew
  have hlt1 := hb1.lt
  have hne1 : mb ∉ own1 := not_own hlt hne hO1
  have R4 := hQ w1 ⟨own1, hS1, hb1, hM1, hO1⟩
  obtain ⟨c1, f1⟩ := hb1.read
  have ck := c1 0
  simp only [mcells, List.getElem?_cons_zero] at ck
  clear R1 c1 f1 hQ
  go_wp2_with fail
  refine R4.mono ?_
  rintro e w4 ⟨rfl, hq⟩
  go_wp2_with fail
  first | go_end0 | refine bodyPost_ret (results_none rfl _ _ _) rfl ?_
  exact hq
end
end Go.Proofs.YtchmhkdnegngdaaGreat
