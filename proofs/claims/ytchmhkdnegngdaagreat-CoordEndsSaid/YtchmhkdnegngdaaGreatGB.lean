/- Words that all later texts share: integers, slices of integers in memory, frames. -/
import Derived.Test.YtchmhkdnegngdaaGreatRows
import Derived.WalkKit
import Derived.ProofKit
import Derived.OpenShut
import Derived.LoopN
import Derived.WalkSpells
import Derived.WalkLawsBesides
import Derived.Deep.QuietTactic
import Derived.BigQuiet
import Derived.StillTailTactics
import Derived.Lib.Hide
import Derived.Deep.LoopGhost
import Derived.Deep.DeepCutAuto
import Derived.Deep.RegionHeld3
import Derived.Deep.RegionWith
import Derived.Deep.DeepFit
set_option linter.unusedVariables false
set_option linter.unusedSimpArgs false
namespace Go.Proofs.YtchmhkdnegngdaaGreat
open Go.RowKit

section
abbrev i64 (n : Int) : Value := .int .i64 n

/-- ints xs lie at block b from off on -/
def IA (w : World) (b off : Nat) (xs : List Int) : Prop :=
  ∀ i, i < xs.length → w.cell? ⟨b, off + i, none⟩ = some (i64 (xs.getD i 0))

theorem IA.at {w : World} {b off : Nat} {xs : List Int} (h : IA w b off xs) {i : Nat} (hi : i < xs.length) :
    w.cell? ⟨b, off + i, none⟩ = some (i64 (xs.getD i 0)) := h i hi

theorem IA.at0 {w : World} {b off : Nat} {xs : List Int} (h : IA w b off xs) {i : Nat} (hi : i < xs.length) :
    w.cell? ⟨b, off + i, none⟩ = some (i64 (xs[i])) := by
  rw [h i hi]; simp [hi]

abbrev Ext (w w' : World) : Prop := Below w.heap.size w w'

theorem IA.ext {w w' : World} {b off : Nat} {xs : List Int} (h : IA w b off xs) (e : Ext w w') : IA w' b off xs := by
  intro i hi
  have := h i hi
  have hb : b < w.heap.size := World.block_lt_of_cell? w _ this
  rw [e.cell (p := ⟨b, off + i, none⟩) hb]; exact this

theorem Ext.trans {a b c : World} (h : Ext a b) (k : Ext b c) : Ext a c := Below.trans h (Below.mono k h.size)

theorem bcell {W w1 : World} (hb : Ext W w1) : (∀ b o, b < W.heap.size → w1.cell? ⟨b, o, none⟩ = W.cell? ⟨b, o, none⟩) ∧ (∀ b o, b < W.heap.size → w1.frozen? ⟨b, o, none⟩ = W.frozen? ⟨b, o, none⟩) :=
  ⟨fun b o h => hb.cell (p := ⟨b, o, none⟩) h, fun b o h => hb.frozen (p := ⟨b, o, none⟩) h⟩

/-- a block of cells that lies in memory, unfrozen: how its cells read -/
def Blk (w : World) (b : Nat) (c : List Value) (t : TypeId) : Prop := w.heap[b]? = some (.cells c.toArray t (0, 0))

theorem Blk.read {w : World} {b : Nat} {c : List Value} {t : TypeId} (h : Blk w b c t) :
    (∀ o, w.cell? ⟨b, o, none⟩ = c[o]?) ∧ (∀ o, w.frozen? ⟨b, o, none⟩ = false) := by
  unfold Blk at h
  constructor
  · intro o; simp [World.cell?, h]
  · intro o; simp [World.frozen?, h]

theorem Blk.lt {w : World} {b : Nat} {c : List Value} {t : TypeId} (h : Blk w b c t) : b < w.heap.size := lt_of_block h

theorem Blk.ext {w w' : World} {b : Nat} {c : List Value} {t : TypeId} (h : Blk w b c t) (e : Ext w w') : Blk w' b c t :=
  (e.block b h.lt).trans h

theorem Blk.below {B : Nat} {w w' : World} {b : Nat} {c : List Value} {t : TypeId} (h : Blk w b c t) (e : Below B w w') (hb : b < B) : Blk w' b c t :=
  (e.block b hb).trans h

theorem Blk.new (w : World) (c : List Value) (t : TypeId) : Blk (w.alloc (.cells c.toArray t)) w.heap.size c t := by
  exact heap_alloc_new w _

theorem Blk.at (w : World) (c : List Value) (t : TypeId) (b : Nat) (hb : b = w.heap.size) : Blk (w.alloc (.cells c.toArray t)) b c t := by
  subst hb; exact heap_alloc_new w _

theorem Blk.grown {w w' : World} {row : Option Nat} {b : Nat} {c : List Value} {t : TypeId} (h : Blk w b c t) (hg : w.grownBy w' row) (hr : some b ≠ row) : Blk w' b c t :=
  (hg.block b h.lt hr).trans h

theorem Blk.old {w : World} {b : Nat} {c : List Value} {t : TypeId} (h : Blk w b c t) (o : Obj) : Blk (w.alloc o) b c t :=
  (Below.heap_alloc w o b h.lt).trans h

theorem Blk.drew {w : World} {b : Nat} {c : List Value} {t : TypeId} (h : Blk w b c t) : Blk w.drew b c t := h

theorem Blk.set {w : World} {b : Nat} {c : List Value} {t : TypeId} (h : Blk w b c t) (i : Nat) (v : Value) : Blk (w.setCell ⟨b, i, none⟩ v) b (c.set i v) t := by
  unfold Blk at *
  simp only [World.setCell, Array.getElem?_modify, if_pos, h]
  simp

theorem Blk.set_other {w : World} {b : Nat} {c : List Value} {t : TypeId} (h : Blk w b c t) (a : Addr) (v : Value) (hne : b ≠ a.block) : Blk (w.setCell a v) b c t :=
  (Below.heap_setCell w a v b hne).trans h

theorem addr_add (b off j : Nat) : (⟨b, off, none⟩ : Addr).add j = ⟨b, off + j, none⟩ := by
  unfold Addr.add; split
  · subst_vars; rfl
  · rfl

theorem IA.news {w : World} {b off : Nat} {xs : List Int} (h : IA w b off xs) :
    ∀ (j : Nat) (u : Value), (xs.map i64)[j]? = some u → w.cell? ((⟨b, off, none⟩ : Addr).add j) = some u := by
  intro j u hj
  rw [addr_add]
  rw [List.getElem?_map] at hj
  cases hx : xs[j]? with
  | none => rw [hx] at hj; cases hj
  | some x =>
    rw [hx] at hj; cases hj
    have hl : j < xs.length := by
      rcases Nat.lt_or_ge j xs.length with h | h
      · exact h
      · rw [List.getElem?_eq_none h] at hx; cases hx
    rw [h j hl, List.getD_eq_getElem?_getD, hx]; rfl

theorem info3 : (Tryz.prog.info? 3).map (fun i => (i.zero, i.size, i.bytes)) = some (some (.int .i64 0), 1, 8) := by kernel_rfl

theorem map_i64_one (xs : List Int) : ∀ u ∈ xs.map i64, u.oneCell' = true := by
  intro u hu; rw [List.mem_map] at hu; obtain ⟨x, _, rfl⟩ := hu; rfl

/-- a slice of ints that was made: where it lies -/
theorem ownsRow_IA {w : World} {base : Nat} {v : Value} {xs : List Int} (h : w.ownsRow base 3 1 v xs.length (xs.map i64)) (hne : 0 < xs.length) :
    ∃ g cap, v = .slice (some ⟨g, 0, none⟩) xs.length cap ∧ base ≤ g ∧ g < w.heap.size ∧ IA w g 0 xs ∧ (∀ j, w.frozen? ⟨g, j, none⟩ = false) := by
  obtain ⟨hl, h2⟩ := h
  rcases h2 with ⟨_, h0⟩ | ⟨g, cap, cur, rfl, hb, hh, hc, hm, hs, ht⟩
  · omega
  · refine ⟨g, cap, rfl, hb, lt_of_block hh, ?_, ?_⟩
    · intro i hi
      have : (cur.toList.take (xs.length * 1))[i]? = (xs.map i64)[i]? := by rw [ht]
      rw [List.getElem?_take, if_pos (by omega)] at this
      simp only [World.cell?, hh, Nat.zero_add]
      simp only [Option.isSome_none, Bool.false_eq_true, if_false]
      rw [← Array.getElem?_toList, this, List.getElem?_map, List.getD_eq_getElem?_getD]
      rw [List.getElem?_eq_getElem hi]; rfl
    · intro j; simp [World.frozen?, hh]

theorem ownsRow_base {w : World} {base base' : Nat} {e : TypeId} {size : Nat} {v : Value} {n : Nat} {xs : List Value} (h : w.ownsRow base e size v n xs) (hb : base' ≤ base) :
    w.ownsRow base' e size v n xs := by
  obtain ⟨h1, h2⟩ := h
  refine ⟨h1, ?_⟩
  rcases h2 with h2 | ⟨g, cap, cur, hv, hg, r⟩
  · exact .inl h2
  · exact .inr ⟨g, cap, cur, hv, by omega, r⟩

/-- what is owned stays so where only what lies elsewhere turns -/
theorem ownsRow_same {w w' : World} {base : Nat} {e : TypeId} {size : Nat} {v : Value} {n : Nat} {xs : List Value} (h : w.ownsRow base e size v n xs)
    (hs : ∀ g, v.ownBlock = some g → w'.heap[g]? = w.heap[g]?) : w'.ownsRow base e size v n xs := by
  obtain ⟨h1, h2⟩ := h
  refine ⟨h1, ?_⟩
  rcases h2 with h2 | ⟨g, cap, cur, rfl, hg, hh, r⟩
  · exact .inl h2
  · exact .inr ⟨g, cap, cur, rfl, hg, (hs g rfl).trans hh, r⟩

/-- w' is w with new blocks, and with writes to the blocks of S alone -/
structure Mod (S : List Nat) (w w' : World) : Prop where
  os : w'.os = w.os
  tape : w'.tape = w.tape
  output : w'.output = w.output
  size : w.heap.size ≤ w'.heap.size
  block : ∀ k, k < w.heap.size → k ∉ S → w'.heap[k]? = w.heap[k]?

theorem Mod.refl (S : List Nat) (w : World) : Mod S w w := ⟨rfl, rfl, rfl, Nat.le_refl _, fun _ _ _ => rfl⟩
theorem Mod.trans {S : List Nat} {a b c : World} (h : Mod S a b) (k : Mod S b c) : Mod S a c :=
  ⟨k.os.trans h.os, k.tape.trans h.tape, k.output.trans h.output, Nat.le_trans h.size k.size,
   fun i hi hs => (k.block i (Nat.lt_of_lt_of_le hi h.size) hs).trans (h.block i hi hs)⟩
/-- a step whose own writes go to blocks of S or to blocks that are new since a -/
theorem Mod.step {S S' : List Nat} {a b c : World} (h : Mod S a b) (k : Mod S' b c) (hs : ∀ x ∈ S', x ∈ S ∨ a.heap.size ≤ x) : Mod S a c :=
  ⟨k.os.trans h.os, k.tape.trans h.tape, k.output.trans h.output, Nat.le_trans h.size k.size,
   fun i hi hn => (k.block i (Nat.lt_of_lt_of_le hi h.size) (fun hm => (hs i hm).elim hn (fun h => by omega))).trans (h.block i hi hn)⟩
theorem Mod.ext {S : List Nat} {a b c : World} (h : Mod S a b) (k : Ext b c) : Mod S a c :=
  ⟨k.os.trans h.os, k.tape.trans h.tape, k.output.trans h.output, Nat.le_trans h.size k.size,
   fun i hi hs => (k.block i (Nat.lt_of_lt_of_le hi h.size)).trans (h.block i hi hs)⟩
theorem Mod.mono {S S' : List Nat} {a b : World} (h : Mod S a b) (hs : ∀ x ∈ S, x ∈ S' ∨ a.heap.size ≤ x) : Mod S' a b :=
  ⟨h.os, h.tape, h.output, h.size, fun i hi hn => h.block i hi (fun hm => (hs i hm).elim hn (fun h => by omega))⟩
theorem Mod.drew {S : List Nat} {a b : World} (h : Mod S a b) : Mod S a b.drew := ⟨h.os, h.tape, h.output, h.size, h.block⟩
theorem Mod.drewN {S : List Nat} {a b : World} (h : Mod S a b) (n : Nat) : Mod S a (b.drewN n) := ⟨h.os, h.tape, h.output, h.size, h.block⟩
theorem Mod.alloc {S : List Nat} {a b : World} (h : Mod S a b) (o : Obj) : Mod S a (b.alloc o) :=
  h.ext ((Below.refl _ _).alloc (Nat.le_refl _) _)
theorem Mod.setCell {S : List Nat} {a b : World} (h : Mod S a b) {p : Addr} (hp : p.block ∈ S ∨ a.heap.size ≤ p.block) (u : Value) : Mod S a (b.setCell p u) :=
  ⟨h.os, h.tape, h.output, by simpa [World.setCell] using h.size,
   fun k hk hs => (Below.heap_setCell b p u k (fun e => by subst e; exact hp.elim hs (fun h => by omega))).trans (h.block k hk hs)⟩
theorem Mod.of_ext {S : List Nat} {a b : World} (h : Ext a b) : Mod S a b := (Mod.refl S a).ext h
theorem Mod.to_ext {S : List Nat} {a b : World} (h : Mod S a b) (hs : ∀ x ∈ S, a.heap.size ≤ x) : Ext a b :=
  ⟨h.os, h.tape, h.output, h.size, fun k hk => h.block k hk (fun hm => by have := hs k hm; omega)⟩
theorem Mod.grown {S : List Nat} {a b c : World} {row : Option Nat} (h : Mod S a b) (hg : b.grownBy c row) (hr : ∀ k, row = some k → k ∈ S ∨ a.heap.size ≤ k) : Mod S a c :=
  ⟨hg.os.trans h.os, hg.tape.trans h.tape, hg.output.trans h.output, Nat.le_trans h.size hg.size,
   fun i hi hn => (hg.block i (Nat.lt_of_lt_of_le hi h.size) (fun e => (hr i e.symm).elim hn (fun h => by omega))).trans (h.block i hi hn)⟩

theorem Blk.mod {S : List Nat} {w w' : World} {b : Nat} {c : List Value} {t : TypeId} (h : Blk w b c t) (e : Mod S w w') (hb : b ∉ S) : Blk w' b c t :=
  (e.block b h.lt hb).trans h

theorem IA.mod {S : List Nat} {w w' : World} {b off : Nat} {xs : List Int} (h : IA w b off xs) (e : Mod S w w') (hb : b ∉ S) : IA w' b off xs := by
  intro i hi
  have h1 := h i hi
  have hlt : b < w.heap.size := World.block_lt_of_cell? w _ h1
  rw [← h1]; exact World.cell?_of_block (e.block b hlt hb)

theorem ownsRow_mod {S : List Nat} {w w' : World} {base : Nat} {e : TypeId} {size : Nat} {v : Value} {n : Nat} {xs : List Value} (h : w.ownsRow base e size v n xs)
    (m : Mod S w w') (hs : ∀ x ∈ S, x < base) : w'.ownsRow base e size v n xs :=
  ownsRow_same h fun g hg => m.block g (h.lt g hg).2 (fun hm => by have := hs g hm; have := (h.lt g hg).1; omega)
end
end Go.Proofs.YtchmhkdnegngdaaGreat
