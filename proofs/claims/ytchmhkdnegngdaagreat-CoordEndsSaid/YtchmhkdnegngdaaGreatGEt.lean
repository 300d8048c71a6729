/- The packets of a tick, one by one: what a reader gets of them. -/
import Derived.Test.YtchmhkdnegngdaaGreatGEp
import Derived.Test.YtchmhkdnegngdaaGreatGHe
import Derived.Test.YtchmhkdnegngdaaGreatGGe
set_option linter.unusedVariables false
set_option linter.unusedSimpArgs false
namespace Go.Proofs.YtchmhkdnegngdaaGreat
open Go.RowKit

section
theorem tickMs_ok {s : St} (f : Fine s) : ∀ p ∈ tickMs s, p.2.ok := by
  intro p hp
  unfold tickMs at hp
  rcases List.mem_append.1 hp with h | h
  · obtain ⟨x, hx, hp⟩ := List.mem_flatMap.1 h
    obtain ⟨q1, q2, q3⟩ := f.mv x hx
    have hpr : (prepMs x).ok := by
      obtain ⟨a1, a2⟩ := q1; obtain ⟨b1, b2⟩ := q2; obtain ⟨c1, c2⟩ := q3
      exact ⟨by unfold small; omega, by unfold small; omega, by unfold small; omega⟩
    have hab : (abortMs x).ok := by
      obtain ⟨a1, a2⟩ := q1; obtain ⟨b1, b2⟩ := q2
      exact ⟨by unfold small; omega, by unfold small; omega⟩
    have hco := commit_ok s x f q1 q2
    unfold moveMs at hp
    split at hp
    · rw [List.mem_singleton.1 hp]; exact hpr
    split at hp
    · rcases List.mem_append.1 hp with h | h
      · split at h
        · rw [List.mem_singleton.1 h]; exact hco
        · cases h
      · split at h
        · rw [List.mem_singleton.1 h]; exact hco
        · cases h
    · rcases List.mem_append.1 hp with h | h
      · split at h
        · rw [List.mem_singleton.1 h]; exact hab
        · cases h
      · split at h
        · rw [List.mem_singleton.1 h]; exact hab
        · cases h
  · have ht := table_ok s f
    unfold tableMsL at h
    rcases List.mem_append.1 h with e | e <;> (obtain ⟨i, _, rfl⟩ := List.mem_map.1 e; exact ht)

theorem PkRow.form {w : World} {A : Option Addr} {c : Nat} {ps : List (Int × ByteArray)} (h : PkRow w (.slice A ps.length c) ps) : ∃ g, A = some ⟨g, 0, none⟩ ∧ g < w.heap.size ∧
    ∀ (i : Nat) (hi : i < ps.length) (j : Nat) (u : Value), (pcells ps[i])[j]? = some u → w.cell? ⟨g, i * 3 + j, none⟩ = some u := by
  obtain ⟨g, c', hv, h1, h2⟩ := h
  injection hv with hv _ _
  subst hv
  exact ⟨g, rfl, h1, h2⟩

/-- a packet's cells, by its message -/
theorem PkRow.pkt {w : World} {A : Option Addr} {c n : Nat} {s : St} (h : PkRow w (.slice A s.tick.length c) s.tick) (hn : s.tick.length = n) {i : Nat} (hi : i < n) : ∃ g d m, A = some ⟨g, 0, none⟩ ∧ g < w.heap.size ∧
    (tickMs s)[i]? = some (d, m) ∧ w.cell? ⟨g, i * 3 + 1, none⟩ = some (i64 d) ∧ w.cell? ⟨g, i * 3 + 2, none⟩ = some (.string (dataS m)) := by
  subst hn
  obtain ⟨g, hA, hg, hc⟩ := h.form
  have hl : s.tick.length = (tickMs s).length := by rw [tick_ms, List.length_map]
  have hi2 : i < (tickMs s).length := by omega
  have he : s.tick[i] = pk (tickMs s)[i] := by
    have h2 : s.tick[i]? = some s.tick[i] := List.getElem?_eq_getElem hi
    have h3 : s.tick[i]? = some (pk (tickMs s)[i]) := by rw [tick_ms, List.getElem?_map, List.getElem?_eq_getElem hi2]; rfl
    rw [h2] at h3
    injection h3
  refine ⟨g, (tickMs s)[i].1, (tickMs s)[i].2, hA, hg, List.getElem?_eq_getElem hi2, ?_, ?_⟩
  · exact hc i hi 1 _ (by rw [he]; rfl)
  · exact hc i hi 2 _ (by rw [he]; rfl)

/-- a read message in its box -/
theorem box_row {w : World} {C : Array Value} {m : Ms} {o : Value} (hC : C = (m.cells o).toArray) : Blk ((w.alloc zlit).setRow w.heap.size C) w.heap.size (m.cells o) 40 := by
  rw [hC]
  exact setRow_heap _ _ _ _ 40 (0, 0) (heap_alloc_new w zlit)

theorem Held.top {w0 w w' : World} {c : Nat} {s : St} {K : List Nat} (h : Held w0 w c s K) (e : Ext w w') {b : Nat} (hb : w.heap.size ≤ b) (hb2 : b < w'.heap.size) : Held w0 w' c s (b :: K) :=
  h.more e [b] (by intro k hk; rw [List.mem_singleton.1 hk]; exact ⟨hb, hb2⟩)

theorem Held.drop {w0 w : World} {c : Nat} {s : St} {K : List Nat} {b : Nat} (h : Held w0 w c s (b :: K)) : Held w0 w c s K := h.less (fun k hk => by simp [hk])

theorem foldl_take_succ {α β : Type} (f : β → α → β) (l : List α) (b : β) {i : Nat} {p : α} (h : l[i]? = some p) : (l.take (i + 1)).foldl f b = f ((l.take i).foldl f b) p := by
  have hi : i < l.length := (List.getElem?_eq_some_iff.1 h).1
  rw [List.take_succ_eq_append_getElem hi, List.foldl_append, List.foldl_cons, List.foldl_nil]
  rw [List.getElem?_eq_getElem hi] at h
  injection h with h
  rw [h]

theorem cell_stay2 {w w' : World} {K : List Nat} {g i : Nat} {u : Value} (h : w.cell? ⟨g, i, none⟩ = some u) (hS : Stay w w' K) (hg : g ∈ K) : w'.cell? ⟨g, i, none⟩ = some u :=
  (World.cell?_of_block (hS g hg)).trans h

/-- rounds, one behind the other -/
def itn : Nat → St → St
  | 0, s => s
  | j + 1, s => rnd (itn j s)

theorem Inv.itn {E : Int} {k : Nat} {s : St} (h : Inv E k s) : ∀ j, Inv E (k + 32 * j) (Go.Proofs.YtchmhkdnegngdaaGreat.itn j s)
  | 0 => h
  | j + 1 => by
    have := (Inv.itn h j).rnd
    exact this

theorem itn_own {E : Int} {k : Nat} {s : St} (h : Inv E k s) (hE : E + k + 200 < 2147483647) : (Go.Proofs.YtchmhkdnegngdaaGreat.itn 3 s).own.length = s.own.length := by
  have i1 := h.rnd
  have i2 := i1.rnd
  show (rnd (rnd (rnd s))).own.length = _
  rw [rnd_own_len i2 (by push_cast; omega), rnd_own_len i1 (by push_cast; omega), rnd_own_len h (by omega)]

theorem cN_succ {L : List Mv} {m : Nat} (h : m < L.length) : cN (L.take (m + 1)) = cN (L.take m) + (if L[m].st = 3 then 0 else 1) := by
  unfold cN
  rw [List.take_succ_eq_append_getElem h, List.countP_append, List.countP_singleton]
  by_cases e : L[m].st = 3 <;> simp [e]

theorem cN_le (L : List Mv) : cN L ≤ L.length := List.countP_le_length
theorem cNA (L : List Mv) : cN L + cA L = L.length := by
  unfold cN cA
  induction L with
  | nil => rfl
  | cons x L ih =>
    rw [List.countP_cons, List.countP_cons, List.length_cons]
    by_cases e : x.st = 3 <;> simp [e] <;> omega
end
end Go.Proofs.YtchmhkdnegngdaaGreat
