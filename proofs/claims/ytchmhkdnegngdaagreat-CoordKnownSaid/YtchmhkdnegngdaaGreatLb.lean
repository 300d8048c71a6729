/- A coordinator of one's own; awake. -/
import Derived.Test.YtchmhkdnegngdaaGreatLa
set_option linter.unusedVariables false
set_option linter.unusedSimpArgs false
namespace Go.Proofs.YtchmhkdnegngdaaGreat
open Go.RowKit


/-- a coordinator that was made since w0; the blocks K are none of its own -/
def Held (w0 w : World) (c : Nat) (s : St) (K : List Nat) : Prop := ∃ F, CR w c F s ∧ (∀ k ∈ F, w0.heap.size ≤ k) ∧ Ext w0 w ∧ ∀ k ∈ K, k < w.heap.size ∧ k ∉ F

/-- the blocks K stay -/
def Stay (w w' : World) (K : List Nat) : Prop := ∀ k ∈ K, w'.heap[k]? = w.heap[k]?

theorem Held.ext {w0 w w' : World} {c : Nat} {s : St} {K : List Nat} (h : Held w0 w c s K) (e : Ext w w') : Held w0 w' c s K := by
  obtain ⟨F, h1, h2, h3, h4⟩ := h
  exact ⟨F, h1.ext e, h2, h3.trans e, fun k hk => ⟨Nat.lt_of_lt_of_le (h4 k hk).1 e.size, (h4 k hk).2⟩⟩

theorem Held.stay {w0 w w' : World} {c : Nat} {s : St} {K : List Nat} (h : Held w0 w c s K) (e : Ext w w') : Stay w w' K := by
  obtain ⟨F, h1, h2, h3, h4⟩ := h
  exact fun k hk => e.block k (h4 k hk).1

/-- blocks that are new since w are not the coordinator's -/
theorem Held.more {w0 w w' : World} {c : Nat} {s : St} {K : List Nat} (h : Held w0 w c s K) (e : Ext w w') (N : List Nat) (hN : ∀ k ∈ N, w.heap.size ≤ k ∧ k < w'.heap.size) : Held w0 w' c s (N ++ K) := by
  obtain ⟨F, h1, h2, h3, h4⟩ := h
  refine ⟨F, h1.ext e, h2, h3.trans e, ?_⟩
  intro k hk
  rcases List.mem_append.1 hk with hk | hk
  · exact ⟨(hN k hk).2, fun hF => by have := h1.lt k hF; have := (hN k hk).1; omega⟩
  · exact ⟨Nat.lt_of_lt_of_le (h4 k hk).1 e.size, (h4 k hk).2⟩

theorem Held.less {w0 w : World} {c : Nat} {s : St} {K K' : List Nat} (h : Held w0 w c s K) (hK : ∀ k ∈ K', k ∈ K) : Held w0 w c s K' := by
  obtain ⟨F, h1, h2, h3, h4⟩ := h
  exact ⟨F, h1, h2, h3, fun k hk => h4 k (hK k hk)⟩

theorem Held.step {w0 w w' : World} {c : Nat} {s' : St} {F K : List Nat} (h2 : ∀ k ∈ F, w0.heap.size ≤ k) (h3 : Ext w0 w) (hK : ∀ k ∈ K, k < w.heap.size ∧ k ∉ F) (h : CStep w c F s' w') : Held w0 w' c s' K ∧ Stay w w' K := by
  obtain ⟨F', h4, h5, h6⟩ := h
  refine ⟨⟨F', h4, ?_, ?_, ?_⟩, fun k hk => h5.block k (hK k hk).1 (hK k hk).2⟩
  · intro k hk
    rcases h6 k hk with e | e
    · exact h2 k e
    · exact Nat.le_trans h3.size e
  · exact ((Mod.of_ext h3).step (S := []) h5 (fun k hk => .inr (h2 k hk))).to_ext (by simp)
  · intro k hk
    refine ⟨Nat.lt_of_lt_of_le (hK k hk).1 h5.size, fun hF => ?_⟩
    rcases h6 k hF with e | e
    · exact (hK k hk).2 e
    · have := (hK k hk).1; omega

theorem IA.stay {w w' : World} {K : List Nat} {b off : Nat} {xs : List Int} (h : IA w b off xs) (hS : Stay w w' K) (hb : b ∈ K) : IA w' b off xs := by
  intro i hi
  rw [← h i hi]; exact World.cell?_of_block (hS b hb)

theorem Blk.stay {w w' : World} {K : List Nat} {b : Nat} {c : List Value} {t : TypeId} (h : Blk w b c t) (hS : Stay w w' K) (hb : b ∈ K) : Blk w' b c t := (hS b hb).trans h

/-- what the contracts ask of a state -/
structure Good (s : St) : Prop where
  l12 : s.L.length ≤ 12
  srt : s.L.Pairwise (fun x y => x.mv < y.mv)
  par : s.L.Pairwise (fun x y => x.part ≠ y.part)
  ol : s.own.length ≤ 64
  o0 : 0 < s.own.length
  la : s.last < 1000000000
  la0 : 0 ≤ s.last
  mvl : ∀ x ∈ s.L, x.mv ≤ s.last
  ca : s.com < 1000000000 ∧ s.ab < 1000000000 ∧ 0 ≤ s.com ∧ 0 ≤ s.ab
  may : ∀ x ∈ s.L, x.st = 1 → mayV s.ep s.n s.own x.part x.dst = 0

theorem held_order {w0 w : World} {c : Nat} {s : St} {K : List Nat} (part dst : Int) (h : Held w0 w c s K) (g : Good s) :
    Calls Tryz.prog 11 #[.pointer (some ⟨c, 0, none⟩), i64 part, i64 dst] w (fun e w' => e = .returned (.tuple #[i64 (s.order part dst).2.1, i64 (s.order part dst).2.2]) ∧ Held w0 w' c (s.order part dst).1 K ∧ Stay w w' K) := by
  obtain ⟨F, h1, h2, h3, hK⟩ := h
  have := g.ol; have := g.la
  exact (corder_calls c F s part dst w h1 (by omega) (by omega) g.la0 g.mvl).mono (fun e w' q => ⟨q.1, Held.step h2 h3 hK q.2⟩)

theorem held_abort {w0 w : World} {c : Nat} {s : St} {K : List Nat} (part : Int) (h : Held w0 w c s K) (g : Good s) :
    Calls Tryz.prog 12 #[.pointer (some ⟨c, 0, none⟩), i64 part] w (fun e w' => e = .returned (i64 (s.abort part).2) ∧ Held w0 w' c (s.abort part).1 K ∧ Stay w w' K) := by
  obtain ⟨F, h1, h2, h3, hK⟩ := h
  exact (cabort_calls c F s part w h1 g.srt).mono (fun e w' q => ⟨q.1, Held.step h2 h3 hK q.2⟩)

theorem held_handle {w0 w : World} {c : Nat} {s : St} {K : List Nat} (from_ kind mv part code : Int) (C : Array Value) (hC : MsgC C kind mv part code) (h : Held w0 w c s K) (g : Good s) :
    Calls Tryz.prog 14 #[.pointer (some ⟨c, 0, none⟩), i64 from_, .agg C] w (fun e w' => e = .returned (.bool (s.handle from_ kind mv part code).2) ∧ Held w0 w' c (s.handle from_ kind mv part code).1 K ∧ Stay w w' K) := by
  obtain ⟨F, h1, h2, h3, hK⟩ := h
  have := g.ol
  exact (handle_calls c F s from_ kind mv part code C w h1 hC g.l12 g.srt g.par g.ca (by omega) g.may).mono (fun e w' q => ⟨q.1, Held.step h2 h3 hK q.2⟩)

theorem held_new {w0 w : World} (ep n : Int) (b off cap : Nat) (xs : List Int) (hl : xs.length ≤ 4096) (hx : IA w b off xs) (hr : rightB ep n xs = true) (h0 : Ext w0 w) :
    Calls Tryz.prog 9 #[.agg #[i64 ep, i64 n, .slice (some ⟨b, off, none⟩) xs.length cap]] w (fun e w' => ∃ c, e = .returned (.tuple #[.pointer (some ⟨c, 0, none⟩), i64 0]) ∧ Held w0 w' c (St.new ep n xs) [] ∧ Ext w w') := by
  refine (cnew_calls ep n b off cap xs w hl hx hr).mono ?_
  intro e w' q
  unfold NewPost at q
  obtain ⟨c, F, rfl, h1, h2, h3⟩ := q
  exact ⟨c, rfl, ⟨F, h1, fun k hk => Nat.le_trans h0.size (h2 k hk), h0.trans h3, by simp⟩, h3⟩

theorem held_ended {w0 w : World} {c : Nat} {s : St} {K : List Nat} (h : Held w0 w c s K) :
    Calls Tryz.prog 19 #[.pointer (some ⟨c, 0, none⟩)] w (fun e w' => e = .returned (.tuple #[i64 s.com, i64 s.ab]) ∧ Held w0 w' c s K ∧ Ext w w') := by
  have h' := h
  obtain ⟨F, h1, h2, h3, hK⟩ := h
  exact (ended_calls c F s w h1).mono (fun e w' q => ⟨q.1, h'.ext q.2, q.2⟩)

theorem held_moves {w0 w : World} {c : Nat} {s : St} {K : List Nat} (h : Held w0 w c s K) (g : Good s) :
    Calls Tryz.prog 21 #[.pointer (some ⟨c, 0, none⟩)] w (fun e w' => ∃ v, e = .returned v ∧ w'.ownsRow w.heap.size 77 6 v s.L.length (s.L.flatMap mvcells) ∧ Held w0 w' c s K ∧ Ext w w') := by
  have h' := h
  obtain ⟨F, h1, h2, h3, hK⟩ := h
  refine (moves_calls c F s w h1 g.l12 g.srt).mono ?_
  intro e w' q
  unfold MovesPost at q
  obtain ⟨v, rfl, ho, hE⟩ := q
  exact ⟨v, rfl, ho, h'.ext hE, hE⟩

theorem held_table {w0 w : World} {c : Nat} {s : St} {K : List Nat} (h : Held w0 w c s K) (g : Good s) :
    Calls Tryz.prog 16 #[.pointer (some ⟨c, 0, none⟩)] w (fun e w' => ∃ q qc, e = .returned (.agg #[i64 s.ep, i64 s.n, .slice (some ⟨q, 0, none⟩) s.own.length qc]) ∧ IA w' q 0 s.own ∧ w.heap.size ≤ q ∧ q < w'.heap.size ∧ Held w0 w' c s K ∧ Ext w w') := by
  have h' := h
  obtain ⟨F, h1, h2, h3, hK⟩ := h
  have := g.ol
  refine (table_calls c F s w h1 (by omega) g.o0).mono ?_
  intro e w' q
  unfold TablePost at q
  obtain ⟨v, gc, rfl, hI, hg, hg2, hE⟩ := q
  exact ⟨v, gc, rfl, hI, hg, hg2, h'.ext hE, hE⟩

theorem held_tick {w0 w : World} {c : Nat} {s : St} {K : List Nat} (h : Held w0 w c s K) (g : Good s) (f : Fine s) :
    Calls Tryz.prog 13 #[.pointer (some ⟨c, 0, none⟩)] w (fun e w' => ∃ v, e = .returned v ∧ PRow w' v s.tick ∧ (∀ q, v.ownBlock = some q → w.heap.size ≤ q) ∧ Held w0 w' c s K ∧ Ext w w') := by
  have h' := h
  obtain ⟨F, h1, h2, h3, hK⟩ := h
  refine (tick_calls c F s w h1 g.l12 g.srt f).mono ?_
  intro e w' q
  unfold TickPost at q
  obtain ⟨v, rfl, ho, hv, hE⟩ := q
  exact ⟨v, rfl, ho, hv, h'.ext hE, hE⟩
end Go.Proofs.YtchmhkdnegngdaaGreat
