/- One coordinator of one's own: its acts; what Moves, Tick, Table leave stays. -/
import Derived.Test.YtchmhkdnegngdaaGreatGIv
set_option linter.unusedVariables false
set_option linter.unusedSimpArgs false
namespace Go.Proofs.YtchmhkdnegngdaaGreat
open Go.RowKit

section
theorem held_one {w0 w : World} {c : Nat} {s : St} {K : List Nat} (x : Ac) (h : Held w0 w c s K) (g : Good s) (hx : x.ok) :
    Calls Tryz.prog 32 #[.pointer (some ⟨c, 0, none⟩), .agg x.cells.toArray] w
      (fun e w' => e = .returned (.tuple #[i64 (s.one x).2.1, i64 (s.one x).2.2.1, .bool (s.one x).2.2.2]) ∧ Held w0 w' c (s.one x).1 K ∧ Stay w w' K) := by
  obtain ⟨F, h1, h2, h3, hK⟩ := h
  exact (one_calls c F s x w h1 g hx).mono (fun e w' q => ⟨q.1, Held.step h2 h3 hK q.2⟩)

theorem held_tick2 {w0 w : World} {c : Nat} {s : St} {K : List Nat} (h : Held w0 w c s K) (g : Good s) (f : Fine s) (hn : 1 ≤ s.n) :
    Calls Tryz.prog 13 #[.pointer (some ⟨c, 0, none⟩)] w (TickOwn s w) := by
  obtain ⟨F, h1, h2, h3, hK⟩ := h
  exact own_tick h1 g f hn

theorem held_moves2 {w0 w : World} {c : Nat} {s : St} {K : List Nat} (h : Held w0 w c s K) (g : Good s) :
    Calls Tryz.prog 21 #[.pointer (some ⟨c, 0, none⟩)] w (MovesOwn s w) := by
  obtain ⟨F, h1, h2, h3, hK⟩ := h
  exact own_moves h1 g

theorem held_table2 {w0 w : World} {c : Nat} {s : St} {K : List Nat} (h : Held w0 w c s K) (g : Good s) :
    Calls Tryz.prog 16 #[.pointer (some ⟨c, 0, none⟩)] w (TableOwn s w) := by
  obtain ⟨F, h1, h2, h3, hK⟩ := h
  have := g.ol
  exact table_own c F s w h1 (by omega) g.o0

theorem held_ended2 {w0 w : World} {c : Nat} {s : St} {K : List Nat} (h : Held w0 w c s K) :
    Calls Tryz.prog 19 #[.pointer (some ⟨c, 0, none⟩)] w (fun e w' => e = .returned (.tuple #[i64 s.com, i64 s.ab]) ∧ Ext w w') := by
  obtain ⟨F, h1, h2, h3, hK⟩ := h
  exact ended_calls c F s w h1

theorem Held.out {w0 w : World} {c : Nat} {s : St} {K : List Nat} (h : Held w0 w c s K) : Ext w0 w := by
  obtain ⟨F, h1, h2, h3, hK⟩ := h
  exact h3

theorem Held.klt {w0 w : World} {c : Nat} {s : St} {K : List Nat} (h : Held w0 w c s K) : ∀ k ∈ K, k < w.heap.size := by
  obtain ⟨F, h1, h2, h3, hK⟩ := h
  exact fun k hk => (hK k hk).1

theorem Held.made {w0 w w' : World} {c : Nat} {F : List Nat} {s : St} (e1 : Ext w0 w) (h1 : CR w' c F s) (h2 : ∀ k ∈ F, w.heap.size ≤ k) (e2 : Ext w w') : Held w0 w' c s [] :=
  ⟨F, h1, fun k hk => Nat.le_trans e1.size (h2 k hk), e1.trans e2, by simp⟩

/-- the block of a slice, if any -/
def blkOf (A : Option Addr) : List Nat := match A with | some a => [a.block] | none => []

def kOf (n : Nat) (A : Option Addr) : List Nat := if n = 0 then [] else blkOf A

theorem MvRow.stay {w w' : World} {A : Option Addr} {c : Nat} {L : List Mv} (h : MvRow w (.slice A L.length c) L) (hz : ∀ k ∈ kOf L.length A, k < w'.heap.size) (hs : ∀ k ∈ kOf L.length A, w'.heap[k]? = w.heap[k]?) : MvRow w' (.slice A L.length c) L := by
  obtain ⟨A', c', hv, h⟩ := h
  injection hv with h1 h2 h3
  subst h1; subst h3
  refine ⟨A, c, rfl, fun hn => ?_⟩
  obtain ⟨b, rfl, hb, hc⟩ := h hn
  have hk : b ∈ kOf L.length (some ⟨b, 0, none⟩) := by
    unfold kOf
    rw [if_neg (fun e => hn (List.length_eq_zero_iff.1 e))]
    simp [blkOf]
  exact ⟨b, rfl, hz b hk, fun i hi j u hu => (World.cell?_of_block (hs b hk)).trans (hc i hi j u hu)⟩

theorem PkRow.stay {w w' : World} {A : Option Addr} {c : Nat} {ps : List (Int × ByteArray)} (h : PkRow w (.slice A ps.length c) ps) (h0 : 0 < ps.length) (hz : ∀ k ∈ kOf ps.length A, k < w'.heap.size) (hs : ∀ k ∈ kOf ps.length A, w'.heap[k]? = w.heap[k]?) : PkRow w' (.slice A ps.length c) ps := by
  obtain ⟨g, c', hv, hb, hc⟩ := h
  injection hv with h1 h2 h3
  subst h1; subst h3
  have hk : g ∈ kOf ps.length (some ⟨g, 0, none⟩) := by
    unfold kOf
    rw [if_neg (by omega)]
    simp [blkOf]
  exact ⟨g, c, rfl, hz g hk, fun i hi j u hu => (World.cell?_of_block (hs g hk)).trans (hc i hi j u hu)⟩

theorem OwnRow.blk {B : Nat} {w : World} {A : Option Addr} {n z : Nat} (h : OwnRow B w A n z) : ∀ k ∈ kOf n A, B ≤ k ∧ k < w.heap.size := by
  intro k hk
  unfold kOf at hk
  split at hk
  · simp at hk
  · obtain ⟨g, rfl, hg, cs, t, hr, _⟩ := h (by omega)
    have : k = g := by simpa [blkOf] using hk
    subst this
    exact ⟨hg, lt_of_block hr⟩

theorem MvRow.form {w : World} {A : Option Addr} {c : Nat} {L : List Mv} (h : MvRow w (.slice A L.length c) L) {k : Nat} (hk : k < L.length) : ∃ b, A = some ⟨b, 0, none⟩ ∧ b < w.heap.size ∧
    ∀ (i : Nat) (hi : i < L.length) (j : Nat) (u : Value), (mvcells L[i])[j]? = some u → w.cell? ⟨b, i * 6 + j, none⟩ = some u := by
  obtain ⟨A', c', hv, h⟩ := h
  injection hv with h1 h2 h3
  subst h1
  exact h (fun e => by rw [e] at hk; simp at hk)

theorem blk3 {w : World} {T : Nat} {a b c : Value} {t : TypeId} (h : Blk w T [a, b, c] t) : w.cell? ⟨T, 0, none⟩ = some a ∧ w.cell? ⟨T, 1, none⟩ = some b ∧ w.cell? ⟨T, 2, none⟩ = some c :=
  ⟨h.read.1 0, h.read.1 1, h.read.1 2⟩
end
end Go.Proofs.YtchmhkdnegngdaaGreat
