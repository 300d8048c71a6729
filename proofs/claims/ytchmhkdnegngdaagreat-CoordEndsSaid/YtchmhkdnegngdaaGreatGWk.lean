/- A walker over a message's fields, whichever of the two: what its methods do; msg.table, msg.numbers, msg.walk by it. -/
import Derived.Test.YtchmhkdnegngdaaGreatGWv
set_option linter.unusedVariables false
set_option linter.unusedSimpArgs false
namespace Go.Proofs.YtchmhkdnegngdaaGreat
open Go.RowKit

section
/-- what a walker's method leaves: the state g', the cell pj of block pb -/
def Took (St : World → List Nat → List UInt8 → Prop) (w : World) (own : List Nat) (g' : List UInt8) (pb : Nat) (cells : List Value) (t : TypeId) (e : Ending) (w' : World) : Prop :=
  e = .returned (.tuple #[]) ∧ ∃ own', St w' own' g' ∧ Blk w' pb cells t ∧ Mod (pb :: own) w w' ∧ ∀ k ∈ own', k ∈ own ∨ w.heap.size ≤ k

/-- what a walker's count leaves -/
def Counted (St : World → List Nat → List UInt8 → Prop) (w : World) (own : List Nat) (g' : List UInt8) (n : Int) (e : Ending) (w' : World) : Prop :=
  e = .returned (i64 n) ∧ ∃ own', St w' own' g' ∧ Mod own w w' ∧ ∀ k ∈ own', k ∈ own ∨ w.heap.size ≤ k

structure Wk where
  T : TypeId
  ob : Nat
  fnum : Nat
  fbyte : Nat
  fcount : Nat
  St : World → List Nat → List UInt8 → Prop
  Num : List UInt8 → Int → List UInt8 → Int → Prop
  Byt : List UInt8 → Int → List UInt8 → Int → Prop
  Cnt : List UInt8 → Int → Int → List UInt8 → Int → Prop
  which : (fnum = 167 ∧ fbyte = 164 ∧ fcount = 165) ∨ (fnum = 148 ∧ fbyte = 145 ∧ fcount = 146)
  st_mod : ∀ {S : List Nat} {w w' : World} {own : List Nat} {g : List UInt8}, St w own g → Mod S w w' → (∀ k ∈ own, k ∉ S) → St w' own g
  st_lt : ∀ {w : World} {own : List Nat} {g : List UInt8}, St w own g → ∀ k ∈ own, k < w.heap.size
  nilNum : ∀ w, (nilAhead 341 T (.pointer (some ⟨ob, 0, none⟩)) "meter/msg.num").run Tryz.prog w = .ok (some false) w
  nilByte : ∀ w, (nilAhead 341 T (.pointer (some ⟨ob, 0, none⟩)) "meter/msg.byte").run Tryz.prog w = .ok (some false) w
  nilCount : ∀ w, (nilAhead 341 T (.pointer (some ⟨ob, 0, none⟩)) "meter/msg.count").run Tryz.prog w = .ok (some false) w
  metNum : ∀ w, (method 341 T (.pointer (some ⟨ob, 0, none⟩)) "meter/msg.num").run Tryz.prog w = .ok (fnum, .pointer (some ⟨ob, 0, none⟩)) w
  metByte : ∀ w, (method 341 T (.pointer (some ⟨ob, 0, none⟩)) "meter/msg.byte").run Tryz.prog w = .ok (fbyte, .pointer (some ⟨ob, 0, none⟩)) w
  metCount : ∀ w, (method 341 T (.pointer (some ⟨ob, 0, none⟩)) "meter/msg.count").run Tryz.prog w = .ok (fcount, .pointer (some ⟨ob, 0, none⟩)) w
  num_calls : ∀ {w : World} {own : List Nat} {g g' : List UInt8} {x x' : Int} {pb pj : Nat} {cells : List Value} {t : TypeId}, St w own g → Num g x g' x' → Blk w pb cells t → cells[pj]? = some (i64 x) → pb ∉ own →
    Calls Tryz.prog fnum #[.pointer (some ⟨ob, 0, none⟩), .pointer (some ⟨pb, pj, none⟩)] w (Took St w own g' pb (cells.set pj (i64 x')) t)
  byte_calls : ∀ {w : World} {own : List Nat} {g g' : List UInt8} {x x' : Int} {pb pj : Nat} {cells : List Value} {t : TypeId}, St w own g → Byt g x g' x' → Blk w pb cells t → cells[pj]? = some (u8 x) → pb ∉ own →
    Calls Tryz.prog fbyte #[.pointer (some ⟨ob, 0, none⟩), .pointer (some ⟨pb, pj, none⟩)] w (Took St w own g' pb (cells.set pj (u8 x')) t)
  count_calls : ∀ {w : World} {own : List Nat} {g g' : List UInt8} {n most x' : Int}, St w own g → Cnt g n most g' x' →
    Calls Tryz.prog fcount #[.pointer (some ⟨ob, 0, none⟩), i64 n, i64 most] w (Counted St w own g' x')

/-- the cells of a message of the kinds that a coordinator tells -/
def mcells (k mv part dst ep n : Int) (o s : Value) : List Value :=
  [u8 k, i64 mv, i64 part, i64 dst, i64 0, i64 0, i64 0, u64 0, i64 0, i64 0, i64 0, i64 0, u8 0, .string ⟨#[]⟩, i64 0, i64 0, i64 0, i64 ep, i64 n, o, s, .string ⟨#[]⟩]

theorem Blk.nelts {w : World} {b b' : Nat} {c c' : List Value} {t t' : TypeId} (h : Blk w b c t) (h' : Blk w b' c' t') (hl : c.length ≠ c'.length) : b ≠ b' := by
  intro e
  subst e
  unfold Blk at h h'
  rw [h] at h'
  injection h' with h1
  injection h1 with h2
  exact hl (by simpa using congrArg Array.size h2)

theorem own_step {own own1 own2 : List Nat} {a b : Nat} (hab : a ≤ b) (h1 : ∀ k ∈ own1, k ∈ own ∨ a ≤ k) (h2 : ∀ k ∈ own2, k ∈ own1 ∨ b ≤ k) : ∀ k ∈ own2, k ∈ own ∨ a ≤ k := by
  intro k hk
  rcases h2 k hk with h | h
  · exact h1 k h
  · right; omega

theorem not_own {own own1 : List Nat} {a mb : Nat} (hlt : mb < a) (h0 : mb ∉ own) (h1 : ∀ k ∈ own1, k ∈ own ∨ a ≤ k) : mb ∉ own1 := by
  intro h
  rcases h1 mb h with h | h
  · exact h0 h
  · omega

theorem mod_step {mb : Nat} {own own1 : List Nat} {a b c : World} (h : Mod (mb :: own) a b) (k : Mod (mb :: own1) b c) (h1 : ∀ k ∈ own1, k ∈ own ∨ a.heap.size ≤ k) : Mod (mb :: own) a c := by
  refine h.step k ?_
  intro x hx
  rcases List.mem_cons.1 hx with e | hx
  · left; simp [e]
  · rcases h1 x hx with h | h
    · left; simp [h]
    · right; exact h

/-- two numbers, then what is left -/
def Nums2 (K : Wk) (mb : Nat) (w : World) (own : List Nat) (g2 : List UInt8) (cells : List Value) (w2 : World) : Prop :=
  ∃ own2, K.St w2 own2 g2 ∧ Blk w2 mb cells 40 ∧ Mod (mb :: own) w w2 ∧ ∀ k ∈ own2, k ∈ own ∨ w.heap.size ≤ k

set_option maxRecDepth 100000 in
theorem table1 (K : Wk) (mb : Nat) (k mv part dst ep n : Int) (o s : Value) (w : World) (own : List Nat) (g g1 g2 : List UInt8) (ep' n' : Int) (hS : K.St w own g) (hb : Blk w mb (mcells k mv part dst ep n o s) 40) (hne : mb ∉ own)
    (h1 : K.Num g ep g1 ep') (h2 : K.Num g1 n g2 n') (Q : Ending → World → Prop)
    (hQ : ∀ w2, Nums2 K mb w own g2 (mcells k mv part dst ep' n' o s) w2 → Calls Tryz.prog 95 #[.iface K.T (.pointer (some ⟨K.ob, 0, none⟩)), .pointer (some ⟨mb, 19, none⟩), i64 64] w2 (fun e w3 => e = .returned (.tuple #[]) ∧ Q e w3)) :
    Calls Tryz.prog 94 #[.iface K.T (.pointer (some ⟨K.ob, 0, none⟩)), .pointer (some ⟨mb, 17, none⟩)] w Q := by
  have hlt := hb.lt
  have R1 := K.num_calls (w := w.drew) (pj := 17) (K.st_mod hS ((Mod.refl [] w).drew) (by simp)) h1 hb.drew rfl hne
  have n1 := K.nilNum
  have m1 := K.metNum
  have R2 := fun (w1 : World) (own1 : List Nat) (hS1 : K.St w1 own1 g1) (hb1 : Blk w1 mb (mcells k mv part dst ep' n o s) 40) (hne1 : mb ∉ own1) => K.num_calls (w := w1.drew) (pj := 18) (K.st_mod hS1 ((Mod.refl [] w1).drew) (by simp)) h2 hb1.drew rfl hne1
  rcases K.which with ⟨e1, e2, e3⟩ | ⟨e1, e2, e3⟩ <;> rw [e1] at R1 <;> simp only [e1] at m1 R2 <;> clear e1 e2 e3
  all_goals
  go_enter Tryz.func94, Tryz.ntmps94
  go_wp2_with fail
  go_region_held3 (fun _ => True) (exact True.intro) (with_reducible refine R1.mono ?_; intro e w1 h0; unfold Took at h0; obtain ⟨rfl, own1, hS1, hb1, hM1, hO1⟩ := h0)
  have hlt1 := hb1.lt
  have hne1 : mb ∉ own1 := not_own hlt hne hO1
  have R3 := R2 w1 own1 hS1 hb1 hne1
  clear R1 R2
  go_wp2_with fail
  go_region_held3 (fun _ => True) (exact True.intro) (with_reducible refine R3.mono ?_; intro e w2 h0; unfold Took at h0; obtain ⟨rfl, own2, hS2, hb2, hM2, hO2⟩ := h0)
  have hlt2 := hb2.lt
  have hN : Nums2 K mb w own g2 (mcells k mv part dst ep' n' o s) w2 := ⟨own2, hS2, hb2, mod_step (Mod.trans ((Mod.refl _ w).drew) hM1) (Mod.trans ((Mod.refl _ w1).drew) hM2) hO1, own_step hM1.size hO1 hO2⟩
  have R4 := hQ w2 hN
  clear hQ R3
  go_wp2_with fail
  refine R4.mono ?_
  rintro e w3 ⟨rfl, hq⟩
  go_wp2_with fail
  refine bodyPost_ret (results_none rfl _ _ _) rfl ?_
  exact hq
end
end Go.Proofs.YtchmhkdnegngdaaGreat
