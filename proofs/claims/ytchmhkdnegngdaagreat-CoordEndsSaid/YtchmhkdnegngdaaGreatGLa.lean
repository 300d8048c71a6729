/- The laws' own words: first, ready, done. A coordinator of one's own; awake. awake. -/
import Derived.Test.YtchmhkdnegngdaaGreatGTi
set_option linter.unusedVariables false
set_option linter.unusedSimpArgs false
namespace Go.Proofs.YtchmhkdnegngdaaGreat
open Go.RowKit

section
/-- a message of a node: its kind, move, shard, code -/
def ncells (k mv part code : Int) : List Value :=
  [.int .u8 k, i64 mv, i64 part, i64 0, i64 0, i64 0, i64 code, .int .u64 0, i64 0, i64 0, i64 0, i64 0, .int .u8 0, .string ⟨#[]⟩, i64 0, i64 0, i64 0, i64 0, i64 0, .slice none 0 0, .slice none 0 0, .string ⟨#[]⟩]

theorem ncells_one (k mv part code : Int) : (ncells k mv part code).toArray.all (·.oneCell') = true := by
  rw [Array.all_eq_true_iff_forall_mem]
  intro x hx
  simp only [ncells, List.mem_toArray, List.mem_cons, List.not_mem_nil, or_false] at hx
  rcases hx with h | h | h | h | h | h | h | h | h | h | h | h | h | h | h | h | h | h | h | h | h | h <;> (rw [h]; rfl)

theorem ncells_msg (k mv part code : Int) : MsgC (ncells k mv part code).toArray k mv part code := ⟨rfl, rfl, rfl, rfl⟩

theorem mready_calls (mv part code : Int) (w : World) :
    Calls Tryz.prog 15 #[i64 mv, i64 part, i64 code] w (fun e w' => e = .returned (.agg (ncells 10 mv part code).toArray) ∧ Ext w w') := by
  have G := Lib.hid (heap_alloc_new w zmsg)
  go_enter Tryz.func15, Tryz.ntmps15
  go_wp2_with (refine wpList_store_row rfl 40 (.tmp 6) (.tmp 10) rfl w.heap.size (ncells 10 mv part code).toArray rfl rfl 40 _ G.out info40 rfl (ncells_one ..) ?_)
  refine bodyPost_ret (results_cell_row rfl _ _ w.heap.size 40 (ncells 10 mv part code).toArray (0, 0) _ rfl (setRow_heap _ _ _ _ 40 (0, 0) G.out) Tryz.underlying40 rfl info40) rfl ?_
  refine ⟨rfl, (Mod.setRow (S := []) ?_ (by right; omega) _).to_ext (by simp)⟩
  exact (Mod.refl _ _).alloc _

theorem mdone_calls (mv part : Int) (w : World) :
    Calls Tryz.prog 18 #[i64 mv, i64 part] w (fun e w' => e = .returned (.agg (ncells 13 mv part 0).toArray) ∧ Ext w w') := by
  have G := Lib.hid (heap_alloc_new w zmsg)
  go_enter Tryz.func18, Tryz.ntmps18
  go_wp2_with (refine wpList_store_row rfl 40 (.tmp 4) (.tmp 7) rfl w.heap.size (ncells 13 mv part 0).toArray rfl rfl 40 _ G.out info40 rfl (ncells_one ..) ?_)
  refine bodyPost_ret (results_cell_row rfl _ _ w.heap.size 40 (ncells 13 mv part 0).toArray (0, 0) _ rfl (setRow_heap _ _ _ _ 40 (0, 0) G.out) Tryz.underlying40 rfl info40) rfl ?_
  refine ⟨rfl, (Mod.setRow (S := []) ?_ (by right; omega) _).to_ext (by simp)⟩
  exact (Mod.refl _ _).alloc _

/-- what first leaves: the examples' table -/
def FirstPost (w : World) (e : Ending) (w' : World) : Prop :=
  ∃ g gc, e = .returned (.agg #[i64 1, i64 2, .slice (some ⟨g, 0, none⟩) 2 gc]) ∧ IA w' g 0 [0, 1] ∧ w.heap.size ≤ g ∧ Ext w w'

theorem first_calls (w : World) : Calls Tryz.prog 10 #[] w (FirstPost w) := by
  go_enter Tryz.func10, Tryz.ntmps10
  go_wp2_with fail
  have hb : Blk ((w.alloc (.cells #[i64 1, i64 2, .slice (some ⟨w.heap.size + 1, 0, none⟩) 2 2] 28)).alloc (.cells #[i64 0, i64 1] 3)) w.heap.size [i64 1, i64 2, .slice (some ⟨w.heap.size + 1, 0, none⟩) 2 2] 28 := (Blk.new w _ 28).old _
  have hb2 : Blk ((w.alloc (.cells #[i64 1, i64 2, .slice (some ⟨w.heap.size + 1, 0, none⟩) 2 2] 28)).alloc (.cells #[i64 0, i64 1] 3)) (w.heap.size + 1) [i64 0, i64 1] 3 := Blk.at _ _ 3 _ (by simp)
  refine bodyPost_ret (results_cell_row rfl _ _ w.heap.size 28 _ (0, 0) _ rfl hb Tryz.underlying28 rfl (by kernel_rfl)) rfl ?_
  unfold FirstPost
  refine ⟨w.heap.size + 1, 2, rfl, ?_, by omega, by (refine Mod.to_ext (S := []) ?_ (by simp); repeat (first | (with_reducible exact Mod.refl _ _) | (with_reducible assumption) | (with_reducible refine Mod.alloc ?_ _) | (with_reducible refine Mod.drew ?_) | (with_reducible refine Mod.drewN ?_ _)))⟩
  intro i hi
  rw [Nat.zero_add, hb2.read.1]
  match i, hi with
  | 0, _ => rfl
  | 1, _ => rfl

deriving instance DecidableEq for St

/-- the states of awake's coordinator -/
def aw0 : St := St.new 1 2 [0, 1]
theorem aw_order : aw0.order 0 1 = (⟨1, 2, [0, 1], [⟨1, 0, 0, 1, 1, 0⟩], 1, 0, 0⟩, 1, 0) := by decide +kernel
def aw1 : St := ⟨1, 2, [0, 1], [⟨1, 0, 0, 1, 1, 0⟩], 1, 0, 0⟩
theorem aw_ready : aw1.handle 1 10 1 0 1 = (⟨2, 2, [1, 1], [⟨1, 0, 0, 1, 2, 0⟩], 1, 0, 0⟩, true) := by decide +kernel
def aw2 : St := ⟨2, 2, [1, 1], [⟨1, 0, 0, 1, 2, 0⟩], 1, 0, 0⟩
theorem aw_done1 : aw2.handle 1 13 1 0 0 = (⟨2, 2, [1, 1], [⟨1, 0, 0, 1, 2, 2⟩], 1, 0, 0⟩, true) := by decide +kernel
def aw3 : St := ⟨2, 2, [1, 1], [⟨1, 0, 0, 1, 2, 2⟩], 1, 0, 0⟩
theorem aw_done0 : aw3.handle 0 13 1 0 0 = (⟨2, 2, [1, 1], [], 1, 1, 0⟩, true) := by decide +kernel
def aw4 : St := ⟨2, 2, [1, 1], [], 1, 1, 0⟩
end

section
/-- a coordinator that was made since w0; the blocks K are none of its own -/
def Held (w0 w : World) (c : Nat) (s : St) (K : List Nat) : Prop := ∃ F, CR w c F s ∧ (∀ k ∈ F, w0.heap.size ≤ k) ∧ Ext w0 w ∧ ∀ k ∈ K, k < w.heap.size ∧ k ∉ F

/-- the blocks K stay -/
def Stay (w w' : World) (K : List Nat) : Prop := ∀ k ∈ K, w'.heap[k]? = w.heap[k]?

theorem Held.ext {w0 w w' : World} {c : Nat} {s : St} {K : List Nat} (h : Held w0 w c s K) (e : Ext w w') : Held w0 w' c s K := by
  obtain ⟨F, h1, h2, h3, h4⟩ := h
  exact ⟨F, h1.ext e, h2, h3.trans e, fun k hk => ⟨Nat.lt_of_lt_of_le (h4 k hk).1 e.size, (h4 k hk).2⟩⟩

theorem Held.stay {w0 w w' : World} {c : Nat} {s : St} {K : List Nat} (h : Held w0 w c s K) (e : Ext w w') : Stay w w' K := by
  obtain ⟨F, h1, h2, h3, h4⟩ := h
  exact fun k hk => e.block k (h4 k hk).1

/-- blocks that are new since w are not the coordinator's -/
theorem Held.more {w0 w w' : World} {c : Nat} {s : St} {K : List Nat} (h : Held w0 w c s K) (e : Ext w w') (N : List Nat) (hN : ∀ k ∈ N, w.heap.size ≤ k ∧ k < w'.heap.size) : Held w0 w' c s (N ++ K) := by
  obtain ⟨F, h1, h2, h3, h4⟩ := h
  refine ⟨F, h1.ext e, h2, h3.trans e, ?_⟩
  intro k hk
  rcases List.mem_append.1 hk with hk | hk
  · exact ⟨(hN k hk).2, fun hF => by have := h1.lt k hF; have := (hN k hk).1; omega⟩
  · exact ⟨Nat.lt_of_lt_of_le (h4 k hk).1 e.size, (h4 k hk).2⟩

theorem Held.less {w0 w : World} {c : Nat} {s : St} {K K' : List Nat} (h : Held w0 w c s K) (hK : ∀ k ∈ K', k ∈ K) : Held w0 w c s K' := by
  obtain ⟨F, h1, h2, h3, h4⟩ := h
  exact ⟨F, h1, h2, h3, fun k hk => h4 k (hK k hk)⟩

theorem Held.step {w0 w w' : World} {c : Nat} {s' : St} {F K : List Nat} (h2 : ∀ k ∈ F, w0.heap.size ≤ k) (h3 : Ext w0 w) (hK : ∀ k ∈ K, k < w.heap.size ∧ k ∉ F) (h : CStep w c F s' w') : Held w0 w' c s' K ∧ Stay w w' K := by
  obtain ⟨F', h4, h5, h6⟩ := h
  refine ⟨⟨F', h4, ?_, ?_, ?_⟩, fun k hk => h5.block k (hK k hk).1 (hK k hk).2⟩
  · intro k hk
    rcases h6 k hk with e | e
    · exact h2 k e
    · exact Nat.le_trans h3.size e
  · exact ((Mod.of_ext h3).step (S := []) h5 (fun k hk => .inr (h2 k hk))).to_ext (by simp)
  · intro k hk
    refine ⟨Nat.lt_of_lt_of_le (hK k hk).1 h5.size, fun hF => ?_⟩
    rcases h6 k hF with e | e
    · exact (hK k hk).2 e
    · have := (hK k hk).1; omega

theorem IA.stay {w w' : World} {K : List Nat} {b off : Nat} {xs : List Int} (h : IA w b off xs) (hS : Stay w w' K) (hb : b ∈ K) : IA w' b off xs := by
  intro i hi
  rw [← h i hi]; exact World.cell?_of_block (hS b hb)

theorem Blk.stay {w w' : World} {K : List Nat} {b : Nat} {c : List Value} {t : TypeId} (h : Blk w b c t) (hS : Stay w w' K) (hb : b ∈ K) : Blk w' b c t := (hS b hb).trans h

/-- what the contracts ask of a state -/
structure Good (s : St) : Prop where
  l12 : s.L.length ≤ 12
  srt : s.L.Pairwise (fun x y => x.mv < y.mv)
  par : s.L.Pairwise (fun x y => x.part ≠ y.part)
  ol : s.own.length ≤ 64
  o0 : 0 < s.own.length
  la : s.last < 1000000000
  la0 : 0 ≤ s.last
  mvl : ∀ x ∈ s.L, x.mv ≤ s.last
  ca : s.com < 1000000000 ∧ s.ab < 1000000000 ∧ 0 ≤ s.com ∧ 0 ≤ s.ab
  may : ∀ x ∈ s.L, x.st = 1 → mayV s.ep s.n s.own x.part x.dst = 0

theorem held_order {w0 w : World} {c : Nat} {s : St} {K : List Nat} (part dst : Int) (h : Held w0 w c s K) (g : Good s) :
    Calls Tryz.prog 11 #[.pointer (some ⟨c, 0, none⟩), i64 part, i64 dst] w (fun e w' => e = .returned (.tuple #[i64 (s.order part dst).2.1, i64 (s.order part dst).2.2]) ∧ Held w0 w' c (s.order part dst).1 K ∧ Stay w w' K) := by
  obtain ⟨F, h1, h2, h3, hK⟩ := h
  have := g.ol; have := g.la
  exact (corder_calls c F s part dst w h1 (by omega) (by omega) g.la0 g.mvl).mono (fun e w' q => ⟨q.1, Held.step h2 h3 hK q.2⟩)

theorem held_abort {w0 w : World} {c : Nat} {s : St} {K : List Nat} (part : Int) (h : Held w0 w c s K) (g : Good s) :
    Calls Tryz.prog 12 #[.pointer (some ⟨c, 0, none⟩), i64 part] w (fun e w' => e = .returned (i64 (s.abort part).2) ∧ Held w0 w' c (s.abort part).1 K ∧ Stay w w' K) := by
  obtain ⟨F, h1, h2, h3, hK⟩ := h
  exact (cabort_calls c F s part w h1 g.srt).mono (fun e w' q => ⟨q.1, Held.step h2 h3 hK q.2⟩)

theorem held_handle {w0 w : World} {c : Nat} {s : St} {K : List Nat} (from_ kind mv part code : Int) (C : Array Value) (hC : MsgC C kind mv part code) (h : Held w0 w c s K) (g : Good s) :
    Calls Tryz.prog 14 #[.pointer (some ⟨c, 0, none⟩), i64 from_, .agg C] w (fun e w' => e = .returned (.bool (s.handle from_ kind mv part code).2) ∧ Held w0 w' c (s.handle from_ kind mv part code).1 K ∧ Stay w w' K) := by
  obtain ⟨F, h1, h2, h3, hK⟩ := h
  have := g.ol
  exact (handle_calls c F s from_ kind mv part code C w h1 hC g.l12 g.srt g.par g.ca (by omega) g.may).mono (fun e w' q => ⟨q.1, Held.step h2 h3 hK q.2⟩)

theorem held_new {w0 w : World} (ep n : Int) (b off cap : Nat) (xs : List Int) (hl : xs.length ≤ 4096) (hx : IA w b off xs) (hr : rightB ep n xs = true) (h0 : Ext w0 w) :
    Calls Tryz.prog 9 #[.agg #[i64 ep, i64 n, .slice (some ⟨b, off, none⟩) xs.length cap]] w (fun e w' => ∃ c, e = .returned (.tuple #[.pointer (some ⟨c, 0, none⟩), i64 0]) ∧ Held w0 w' c (St.new ep n xs) [] ∧ Ext w w') := by
  refine (cnew_calls ep n b off cap xs w hl hx hr).mono ?_
  intro e w' q
  unfold NewPost at q
  obtain ⟨c, F, rfl, h1, h2, h3⟩ := q
  exact ⟨c, rfl, ⟨F, h1, fun k hk => Nat.le_trans h0.size (h2 k hk), h0.trans h3, by simp⟩, h3⟩

theorem held_ended {w0 w : World} {c : Nat} {s : St} {K : List Nat} (h : Held w0 w c s K) :
    Calls Tryz.prog 19 #[.pointer (some ⟨c, 0, none⟩)] w (fun e w' => e = .returned (.tuple #[i64 s.com, i64 s.ab]) ∧ Held w0 w' c s K ∧ Ext w w') := by
  have h' := h
  obtain ⟨F, h1, h2, h3, hK⟩ := h
  exact (ended_calls c F s w h1).mono (fun e w' q => ⟨q.1, h'.ext q.2, q.2⟩)

theorem held_moves {w0 w : World} {c : Nat} {s : St} {K : List Nat} (h : Held w0 w c s K) (g : Good s) :
    Calls Tryz.prog 21 #[.pointer (some ⟨c, 0, none⟩)] w (fun e w' => ∃ v, e = .returned v ∧ w'.ownsRow w.heap.size 77 6 v s.L.length (s.L.flatMap mvcells) ∧ Held w0 w' c s K ∧ Ext w w') := by
  have h' := h
  obtain ⟨F, h1, h2, h3, hK⟩ := h
  refine (moves_calls c F s w h1 g.l12 g.srt).mono ?_
  intro e w' q
  unfold MovesPost at q
  obtain ⟨v, rfl, ho, hE⟩ := q
  exact ⟨v, rfl, ho, h'.ext hE, hE⟩

theorem held_table {w0 w : World} {c : Nat} {s : St} {K : List Nat} (h : Held w0 w c s K) (g : Good s) :
    Calls Tryz.prog 16 #[.pointer (some ⟨c, 0, none⟩)] w (fun e w' => ∃ q qc, e = .returned (.agg #[i64 s.ep, i64 s.n, .slice (some ⟨q, 0, none⟩) s.own.length qc]) ∧ IA w' q 0 s.own ∧ w.heap.size ≤ q ∧ q < w'.heap.size ∧ Held w0 w' c s K ∧ Ext w w') := by
  have h' := h
  obtain ⟨F, h1, h2, h3, hK⟩ := h
  have := g.ol
  refine (table_calls c F s w h1 (by omega) g.o0).mono ?_
  intro e w' q
  unfold TablePost at q
  obtain ⟨v, gc, rfl, hI, hg, hg2, hE⟩ := q
  exact ⟨v, gc, rfl, hI, hg, hg2, h'.ext hE, hE⟩

theorem held_tick {w0 w : World} {c : Nat} {s : St} {K : List Nat} (h : Held w0 w c s K) (g : Good s) (f : Fine s) :
    Calls Tryz.prog 13 #[.pointer (some ⟨c, 0, none⟩)] w (fun e w' => ∃ v, e = .returned v ∧ PRow w' v s.tick ∧ (∀ q, v.ownBlock = some q → w.heap.size ≤ q) ∧ Held w0 w' c s K ∧ Ext w w') := by
  have h' := h
  obtain ⟨F, h1, h2, h3, hK⟩ := h
  refine (tick_calls c F s w h1 g.l12 g.srt f).mono ?_
  intro e w' q
  unfold TickPost at q
  obtain ⟨v, rfl, ho, hv, hE⟩ := q
  exact ⟨v, rfl, ho, hv, h'.ext hE, hE⟩
end

section
theorem good_aw0 : Good aw0 := by constructor <;> decide +kernel
theorem good_aw1 : Good aw1 := by constructor <;> decide +kernel
theorem good_aw2 : Good aw2 := by constructor <;> decide +kernel
theorem good_aw3 : Good aw3 := by constructor <;> decide +kernel
theorem good_aw4 : Good aw4 := by constructor <;> decide +kernel
theorem right_first : rightB 1 2 [0, 1] = true := by decide +kernel

theorem ownsRow_slice {w : World} {base : Nat} {e : TypeId} {size : Nat} {v : Value} {n : Nat} {xs : List Value} (h : w.ownsRow base e size v n xs) : ∃ a c, v = .slice a n c := by
  rcases h.2 with ⟨e, h0⟩ | ⟨g, cap, cur, e, _⟩
  · exact ⟨none, 0, by rw [e, h0]⟩
  · exact ⟨_, _, e⟩

set_option maxRecDepth 100000 in
set_option maxHeartbeats 800000 in
theorem awake_calls (w : World) : Calls Tryz.prog 20 #[] w (fun e w' => e = .returned (.bool true) ∧ Ext w w') := by
  go_enter Tryz.func20, Tryz.ntmps20
  go_wp2_with fail
  refine (first_calls w).mono ?_
  intro e w1 q
  unfold FirstPost at q
  obtain ⟨g, gc, rfl, hI, _, hE⟩ := q
  go_wp2_with fail
  refine (held_new (w0 := w) 1 2 g 0 gc [0, 1] (by decide) hI right_first hE).mono ?_
  rintro e w2 ⟨c, rfl, H0, _⟩
  have h0 := Lib.hid H0
  clear H0 hI hE
  go_wp2_with fail
  refine (held_order 0 1 h0.out good_aw0).mono ?_
  rw [show St.new 1 2 [0, 1] = aw0 from rfl, aw_order]
  rintro e w3 ⟨rfl, H1, _⟩
  have h1 := Lib.hid (show Held w w3 c aw1 [] from H1)
  clear H1
  go_wp2_with fail
  refine (mready_calls 1 0 1 w3).mono ?_
  rintro e w4 ⟨rfl, hE⟩
  have h1b := Lib.hid (h1.out.ext hE)
  obtain ⟨C, hC⟩ : ∃ C, C = (ncells 10 1 0 1).toArray := ⟨_, rfl⟩
  have hM : MsgC C 10 1 0 1 := by rw [hC]; exact ncells_msg ..
  rw [← hC]
  have HM := Lib.hid hM
  clear hE hC hM
  go_wp2_with fail
  refine (held_handle 1 10 1 0 1 C HM.out h1b.out good_aw1).mono ?_
  rw [aw_ready]
  rintro e w5 ⟨rfl, H2, _⟩
  have h2 := Lib.hid (show Held w w5 c aw2 [] from H2)
  clear H2
  go_wp2_with fail
  have RT := held_table h2.out good_aw2
  rw [show aw2.ep = 2 from rfl, show aw2.n = 2 from rfl, show aw2.own = [1, 1] from rfl, show ([1, 1] : List Int).length = 2 from rfl] at RT
  refine RT.mono ?_
  rintro e w6 ⟨q, qc, rfl, hI, hq1, hq2, H2, hE⟩
  have e7 : Ext w6 (w6.alloc (.cells #[i64 2, i64 2, .slice (some ⟨q, 0, none⟩) 2 qc] 28)) := by (refine Mod.to_ext (S := []) ?_ (by simp); repeat (first | (with_reducible exact Mod.refl _ _) | (with_reducible assumption) | (with_reducible refine Mod.alloc ?_ _) | (with_reducible refine Mod.drew ?_) | (with_reducible refine Mod.drewN ?_ _)))
  have h2b := Lib.hid (h2.out.more (hE.trans e7) [q, w6.heap.size] (by
    have := hE.size
    simp only [List.mem_cons, List.not_mem_nil, or_false, World.size_alloc]
    rintro k (e | e) <;> subst e <;> omega))
  have HI := Lib.hid (hI.ext e7)
  have HB := Lib.hid (Blk.new w6 [i64 2, i64 2, .slice (some ⟨q, 0, none⟩) 2 qc] 28)
  clear H2 hE hI e7
  go_wp2_with fail
  revert h2b HI HB
  generalize w6.heap.size = T
  generalize hW : World.alloc w6 _ = W
  clear hW
  intro h2b HI HB
  refine (mdone_calls 1 0 W).mono ?_
  rintro e w7 ⟨rfl, hE⟩
  have hs7 := h2b.out.stay hE
  have h7 := Lib.hid (h2b.out.ext hE)
  have HI7 := Lib.hid (HI.out.stay hs7 (by simp))
  have HB7 := Lib.hid (HB.out.stay hs7 (by simp))
  obtain ⟨D, hD⟩ : ∃ D, D = (ncells 13 1 0 0).toArray := ⟨_, rfl⟩
  have hM : MsgC D 13 1 0 0 := by rw [hD]; exact ncells_msg ..
  rw [← hD]
  have HDM := Lib.hid hM
  have HD := Lib.hid hD
  clear hE hD hM hs7
  go_wp2_with fail
  refine (held_handle 1 13 1 0 0 D HDM.out h7.out good_aw2).mono ?_
  rw [aw_done1]
  rintro e w8 ⟨rfl, H3, hs8⟩
  have h8 := Lib.hid (show Held w w8 c aw3 _ from H3)
  have HI8 := Lib.hid (HI7.out.stay hs8 (by simp))
  have HB8 := Lib.hid (HB7.out.stay hs8 (by simp))
  clear H3 hs8
  go_wp2_with fail
  refine (mdone_calls 1 0 w8).mono ?_
  rintro e w9 ⟨rfl, hE⟩
  have hs9 := h8.out.stay hE
  have h9 := Lib.hid (h8.out.ext hE)
  have HI9 := Lib.hid (HI8.out.stay hs9 (by simp))
  have HB9 := Lib.hid (HB8.out.stay hs9 (by simp))
  rw [← HD.out]
  clear hE hs9
  go_wp2_with fail
  refine (held_handle 0 13 1 0 0 D HDM.out h9.out good_aw3).mono ?_
  rw [aw_done0]
  rintro e w10 ⟨rfl, H3, hs10⟩
  have h10 := Lib.hid (show Held w w10 c aw4 _ from H3)
  have HI10 := Lib.hid (HI9.out.stay hs10 (by simp))
  have HB10 := Lib.hid (HB9.out.stay hs10 (by simp))
  clear H3 hs10
  go_wp2_with fail
  refine (held_ended h10.out).mono ?_
  rintro e w11 ⟨rfl, H3, hE⟩
  have hs11 := h10.out.stay hE
  have h11 := Lib.hid H3
  have HI11 := Lib.hid (HI10.out.stay hs11 (by simp))
  obtain ⟨b1, b2⟩ := (HB10.out.stay hs11 (by simp)).read
  have i0 := HI11.out.at0 (i := 0) (by decide)
  clear H3 hs11 hE
  go_wp2_with fail
  refine (held_moves h11.out good_aw4).mono ?_
  rintro e w12 ⟨v, rfl, ho, H4, hE⟩
  obtain ⟨va, vc, rfl⟩ := ownsRow_slice ho
  have h12 := Lib.hid H4
  rw [show aw4.L.length = 0 from rfl]
  clear H4 ho hE
  go_wp2_with fail
  go_ret
  obtain ⟨F, _, _, hE, _⟩ := h12.out
  exact ⟨rfl, hE⟩
end
end Go.Proofs.YtchmhkdnegngdaaGreat
