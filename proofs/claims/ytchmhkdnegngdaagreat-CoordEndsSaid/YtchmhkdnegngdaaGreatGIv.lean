/- What a coordinator's state keeps, act by act. Two coordinators side by side; rows of one's own that are written over. -/
import Derived.Test.YtchmhkdnegngdaaGreatGRx
set_option linter.unusedVariables false
set_option linter.unusedSimpArgs false
namespace Go.Proofs.YtchmhkdnegngdaaGreat
open Go.RowKit

section
theorem mayV_iff {ep n : Int} {xs : List Int} {part dst : Int} : mayV ep n xs part dst = 0 ↔ rightB ep n xs = true ∧ ep < 2147483647 ∧ 0 ≤ part ∧ part < xs.length ∧ 0 ≤ dst ∧ dst < n ∧ xs.getD part.toNat 0 ≠ dst := by
  unfold mayV
  by_cases h1 : rightB ep n xs = false ∨ 2147483647 ≤ ep
  · rw [if_pos h1]
    constructor
    · intro h; cases h
    · rintro ⟨h2, h3, _⟩
      rcases h1 with h1 | h1
      · rw [h1] at h2; cases h2
      · omega
  · rw [if_neg h1]
    have h2 : rightB ep n xs = true := by
      cases h : rightB ep n xs with
      | true => rfl
      | false => exact absurd (.inl h) h1
    have h3 : ep < 2147483647 := by have := fun e => h1 (.inr e); omega
    by_cases h4 : part < 0 ∨ xs.length ≤ part
    · rw [if_pos h4]
      constructor
      · intro h; cases h
      · rintro ⟨_, _, h5, h6, _⟩; omega
    · rw [if_neg h4]
      by_cases h5 : dst < 0 ∨ n ≤ dst
      · rw [if_pos h5]
        constructor
        · intro h; cases h
        · rintro ⟨_, _, _, _, h6, h7, _⟩; omega
      · rw [if_neg h5]
        by_cases h6 : xs.getD part.toNat 0 = dst
        · rw [if_pos h6]
          constructor
          · intro h; cases h
          · rintro ⟨_, _, _, _, _, _, h7⟩; exact absurd h6 h7
        · rw [if_neg h6]
          exact ⟨fun _ => ⟨h2, h3, by omega, by omega, by omega, by omega, h6⟩, fun _ => rfl⟩

theorem mem_setAt {k st dn : Int} : ∀ {L : List Mv}, L.Pairwise (fun x y => x.mv < y.mv) → ∀ {y : Mv}, y ∈ setAt k st dn L → (y ∈ L ∧ y.mv ≠ k) ∨ ∃ x ∈ L, x.mv = k ∧ y = { x with st := st, dn := dn }
  | [], _, y, hy => by cases hy
  | x :: L, hs, y, hy => by
    rw [List.pairwise_cons] at hs
    rw [setAt] at hy
    split at hy
    · rename_i hk
      rcases List.mem_cons.1 hy with e | e
      · exact .inr ⟨x, by simp, hk.symm, e⟩
      · have := hs.1 y e
        exact .inl ⟨by simp [e], by omega⟩
    · rename_i hk
      rcases List.mem_cons.1 hy with e | e
      · subst e; exact .inl ⟨by simp, fun e => hk e.symm⟩
      · rcases mem_setAt hs.2 e with ⟨h1, h2⟩ | ⟨z, h1, h2, h3⟩
        · exact .inl ⟨by simp [h1], h2⟩
        · exact .inr ⟨z, by simp [h1], h2, h3⟩

theorem delMv_sub (k : Int) : ∀ (L : List Mv), (delMv k L).Sublist L
  | [] => .slnil
  | x :: L => by
    rw [delMv]
    split
    · exact List.sublist_cons_self x L
    · exact (delMv_sub k L).cons_cons x

theorem mem_delMv {k : Int} : ∀ {L : List Mv}, L.Pairwise (fun x y => x.mv < y.mv) → ∀ {y : Mv}, y ∈ delMv k L → y ∈ L ∧ y.mv ≠ k
  | [], _, y, hy => by cases hy
  | x :: L, hs, y, hy => by
    rw [List.pairwise_cons] at hs
    rw [delMv] at hy
    split at hy
    · rename_i hk
      have := hs.1 y hy
      exact ⟨by simp [hy], by omega⟩
    · rename_i hk
      rcases List.mem_cons.1 hy with e | e
      · subst e; exact ⟨by simp, fun e => hk e.symm⟩
      · obtain ⟨h1, h2⟩ := mem_delMv hs.2 e
        exact ⟨by simp [h1], h2⟩

theorem setAt_pw {R : Ent → Ent → Prop} {k st dn : Int} {L : List Mv} (h : L.Pairwise (fun x y => R x.ent y.ent)) : (setAt k st dn L).Pairwise (fun x y => R x.ent y.ent) := by
  have h1 : (L.map Mv.ent).Pairwise R := by rw [List.pairwise_map]; exact h
  rw [← setAt_ent k st dn L, List.pairwise_map] at h1
  exact h1

theorem part_inj {L : List Mv} (h : L.Pairwise (fun x y => x.part ≠ y.part)) {x y : Mv} (hx : x ∈ L) (hy : y ∈ L) (e : x.part = y.part) : x = y := by
  induction L with
  | nil => cases hx
  | cons z L ih =>
    rw [List.pairwise_cons] at h
    rcases List.mem_cons.1 hx with h1 | h1 <;> rcases List.mem_cons.1 hy with h2 | h2
    · rw [h1, h2]
    · subst h1; exact absurd e (h.1 y h2)
    · subst h2; exact absurd e.symm (h.1 x h1)
    · exact ih h.2 h1 h2

theorem mv_inj {L : List Mv} (h : L.Pairwise (fun x y => x.mv < y.mv)) {x y : Mv} (hx : x ∈ L) (hy : y ∈ L) (e : x.mv = y.mv) : x = y := by
  induction L with
  | nil => cases hx
  | cons z L ih =>
    rw [List.pairwise_cons] at h
    rcases List.mem_cons.1 hx with h1 | h1 <;> rcases List.mem_cons.1 hy with h2 | h2
    · rw [h1, h2]
    · subst h1; have := h.1 y h2; omega
    · subst h2; have := h.1 x h1; omega
    · exact ih h.2 h1 h2

/-- a move that is under way, over a table -/
structure MvOk (n last : Int) (own : List Int) (x : Mv) : Prop where
  m1 : 1 ≤ x.mv
  ml : x.mv ≤ last
  p0 : 0 ≤ x.part
  pl : x.part < own.length
  f0 : 0 ≤ x.fr
  fn : x.fr < n
  d0 : 0 ≤ x.dst
  dln : x.dst < n
  ne : x.fr ≠ x.dst
  st3 : x.st = 1 ∨ x.st = 2 ∨ x.st = 3
  dn3 : x.dn = 0 ∨ x.dn = 1 ∨ x.dn = 2
  s1 : x.st = 1 → x.dn = 0
  ow : x.st ≠ 2 → own.getD x.part.toNat 0 = x.fr
  ow2 : x.st = 2 → own.getD x.part.toNat 0 = x.dst

/-- what holds behind at most k acts, of a table whose epoch was E -/
structure Inv (E : Int) (k : Nat) (s : St) : Prop where
  n1 : 1 ≤ s.n
  n4 : s.n ≤ 4
  o1 : 1 ≤ s.own.length
  o8 : s.own.length ≤ 8
  ow : ∀ x ∈ s.own, 0 ≤ x ∧ x < s.n
  e1 : 1 ≤ s.ep
  ek : s.ep ≤ E + k
  l0 : 0 ≤ s.last
  lk : s.last ≤ k
  c0 : 0 ≤ s.com
  ck : s.com ≤ k
  a0 : 0 ≤ s.ab
  ak : s.ab ≤ k
  srt : s.L.Pairwise (fun x y => x.mv < y.mv)
  par : s.L.Pairwise (fun x y => x.part ≠ y.part)
  mvs : ∀ x ∈ s.L, MvOk s.n s.last s.own x

theorem Inv.right {E : Int} {k : Nat} {s : St} (h : Inv E k s) : rightB s.ep s.n s.own = true := by
  unfold rightB
  have hb : s.own.any (badOwner s.n) = false := by
    rw [List.any_eq_false]
    intro x hx
    have := h.ow x hx
    simp [badOwner]
    omega
  simp [hb, h.n1, h.n4, h.e1, h.o8]
  exact h.o1

theorem Inv.mono {E : Int} {k k' : Nat} {s : St} (h : Inv E k s) (hk : k ≤ k') : Inv E k' s := by
  obtain ⟨h1, h2, h3, h4, h5, h6, h7, h8, h9, h10, h11, h12, h13, h14, h15, h16⟩ := h
  exact ⟨h1, h2, h3, h4, h5, h6, by omega, h8, by omega, h10, by omega, h12, by omega, h14, h15, h16⟩

/-- at most as many moves as shards -/
theorem parts_len : ∀ (m : Nat) (L : List Mv), L.Pairwise (fun x y => x.part ≠ y.part) → (∀ x ∈ L, 0 ≤ x.part ∧ x.part < m) → L.length ≤ m
  | 0, L, _, h => by
    cases L with
    | nil => simp
    | cons x L => have := h x (by simp); omega
  | m + 1, L, hp, h => by
    have hs : L.length ≤ (L.filter (fun x => x.part != (m : Int))).length + 1 := by
      clear h
      induction L with
      | nil => simp
      | cons x L ih =>
        rw [List.pairwise_cons] at hp
        by_cases e : x.part = m
        · have : L.filter (fun x => x.part != (m : Int)) = L := by
            rw [List.filter_eq_self]
            intro y hy
            have := hp.1 y hy
            simp
            omega
          rw [List.filter_cons_of_neg (by simp [e]), this]; simp
        · rw [List.filter_cons_of_pos (by simp [e])]
          have := ih hp.2
          simp
          omega
    have := parts_len m (L.filter (fun x => x.part != (m : Int))) (hp.sublist List.filter_sublist) (by
      intro x hx
      rw [List.mem_filter] at hx
      have := h x hx.1
      have h2 := hx.2
      simp at h2
      omega)
    omega

theorem Inv.len {E : Int} {k : Nat} {s : St} (h : Inv E k s) : s.L.length ≤ 8 :=
  Nat.le_trans (parts_len s.own.length s.L h.par (fun x hx => ⟨(h.mvs x hx).p0, (h.mvs x hx).pl⟩)) h.o8

theorem Inv.good {E : Int} {k : Nat} {s : St} (h : Inv E k s) (hk : k ≤ 100000) (hE : E + k < 2147483647) : Good s := by
  have := h.len; have := h.o1; have := h.o8; have := h.lk; have := h.ck; have := h.ak; have := h.ek
  refine ⟨by omega, h.srt, h.par, by omega, by omega, by omega, h.l0, fun x hx => (h.mvs x hx).ml, ⟨by omega, by omega, h.c0, h.a0⟩, ?_⟩
  intro x hx h1
  have hm := h.mvs x hx
  rw [mayV_iff]
  refine ⟨h.right, by omega, hm.p0, hm.pl, hm.d0, hm.dln, ?_⟩
  rw [hm.ow (by omega)]
  exact hm.ne

theorem Inv.new {ep n : Int} {own : List Int} (h : rightB ep n own = true) : Inv ep 0 (St.new ep n own) := by
  obtain ⟨h1, h2, h3, h4, h5, h6⟩ := rightB_true h
  refine ⟨h2, h3, h4, h5, ?_, h1, by simp [St.new], ?_, ?_, ?_, ?_, ?_, ?_, List.Pairwise.nil, List.Pairwise.nil, by intro x hx; cases hx⟩
  · intro x hx
    exact h6 x hx
  all_goals simp [St.new]

theorem Inv.order {E : Int} {k : Nat} {s : St} (h : Inv E k s) (part dst : Int) : Inv E (k + 1) (s.order part dst).1 := by
  unfold St.order
  split
  · exact h.mono (by omega)
  · rename_i hm
    split
    · exact h.mono (by omega)
    · rename_i ho
      have hm : mayV s.ep s.n s.own part dst = 0 := by simpa using hm
      obtain ⟨_, _, p0, pl, d0, dl, hne⟩ := mayV_iff.1 hm
      rw [entOf_byPart] at ho
      have hnone : ∀ x ∈ s.L, x.part ≠ part := by
        intro x hx e
        apply ho
        unfold St.byPart
        cases hf : s.L.find? (fun x => x.part == part) with
        | none => rw [List.find?_eq_none] at hf; exact absurd (by simpa using e) (hf x hx)
        | some y => rfl
      have hfr : 0 ≤ s.own.getD part.toNat 0 ∧ s.own.getD part.toNat 0 < s.n := by
        rw [List.getD_eq_getElem?_getD, List.getElem?_eq_getElem (by omega)]
        exact h.ow _ (List.getElem_mem _)
      have := h.l0; have := h.lk; have := h.ck; have := h.ak; have := h.ek
      refine ⟨h.n1, h.n4, h.o1, h.o8, h.ow, h.e1, by simp; omega, by simp; omega, by simp; omega, h.c0, by simp; omega, h.a0, by simp; omega, ?_, ?_, ?_⟩
      · rw [List.pairwise_append]
        refine ⟨h.srt, List.pairwise_singleton _ _, ?_⟩
        intro x hx y hy
        have := (h.mvs x hx).ml
        rw [List.mem_singleton.1 hy]
        simp; omega
      · rw [List.pairwise_append]
        refine ⟨h.par, List.pairwise_singleton _ _, ?_⟩
        intro x hx y hy
        rw [List.mem_singleton.1 hy]
        exact hnone x hx
      · intro x hx
        rcases List.mem_append.1 hx with hx | hx
        · obtain ⟨h1, h2, h3, h4, h5, h6, h7, h8, h9, h10, h11, h12, h13, h14⟩ := h.mvs x hx
          exact ⟨h1, by simp; omega, h3, h4, h5, h6, h7, h8, h9, h10, h11, h12, h13, h14⟩
        · rw [List.mem_singleton.1 hx]
          exact ⟨by simp; omega, by simp, p0, pl, hfr.1, hfr.2, d0, dl, hne, .inl rfl, .inl rfl, fun _ => rfl, fun _ => rfl, fun e => by cases e⟩

theorem Inv.setAt {E : Int} {k : Nat} {s : St} (h : Inv E k s) (x : Mv) (hx : x ∈ s.L) (st dn : Int) (hst : st = x.st ∧ x.st ≠ 1 ∨ x.st = 1 ∧ st = 3) (hdn : dn = 0 ∨ dn = 1 ∨ dn = 2) : Inv E (k + 1) { s with L := Go.Proofs.YtchmhkdnegngdaaGreat.setAt x.mv st dn s.L } := by
  have := h.lk; have := h.ck; have := h.ak; have := h.ek
  refine ⟨h.n1, h.n4, h.o1, h.o8, h.ow, h.e1, by simp; omega, h.l0, by simp; omega, h.c0, by simp; omega, h.a0, by simp; omega, setAt_pw (R := fun a b => a.mv < b.mv) h.srt, setAt_pw (R := fun a b => a.part ≠ b.part) h.par, ?_⟩
  intro y hy
  rcases mem_setAt h.srt hy with ⟨h1, _⟩ | ⟨z, h1, h2, h3⟩
  · exact h.mvs y h1
  · have hz := mv_inj h.srt h1 hx h2
    subst hz
    subst h3
    obtain ⟨h1, h2, h3, h4, h5, h6, h7, h8, h9, h10, h11, h12, h13, h14⟩ := h.mvs z hx
    refine ⟨h1, h2, h3, h4, h5, h6, h7, h8, h9, ?_, hdn, ?_, ?_, ?_⟩
    · simp; omega
    · simp; intro e; omega
    · simp; intro e; exact h13 (by omega)
    · simp; intro e; exact h14 (by omega)

theorem Inv.abort {E : Int} {k : Nat} {s : St} (h : Inv E k s) (part : Int) : Inv E (k + 1) (s.abort part).1 := by
  unfold St.abort
  split
  · exact h.mono (by omega)
  · split
    · exact h.mono (by omega)
    · rename_i x hx
      split
      · rename_i h1
        have hm : x ∈ s.L := List.mem_of_find?_eq_some hx
        exact h.setAt x hm 3 0 (.inr ⟨h1, rfl⟩) (.inl rfl)
      · exact h.mono (by omega)

theorem getD_set_same {xs : List Int} {i : Nat} (hi : i < xs.length) (v : Int) : (xs.set i v).getD i 0 = v := by
  simp [List.getD_eq_getElem?_getD, hi]
theorem getD_set_other {xs : List Int} {i j : Nat} (h : i ≠ j) (v : Int) : (xs.set i v).getD j 0 = xs.getD j 0 := by
  simp [List.getD_eq_getElem?_getD, List.getElem?_set_ne h]

theorem Inv.ready {E : Int} {k : Nat} {s : St} (h : Inv E k s) (x : Mv) (hx : x ∈ s.L) (h1 : x.st = 1) (code : Int) : Inv E (k + 1) (s.ready x code) := by
  unfold St.ready
  split
  · rename_i hc
    have hm := h.mvs x hx
    have := h.lk; have := h.ck; have := h.ak; have := h.ek; have := h.e1; have := hm.p0; have := hm.pl
    have hpl : x.part.toNat < s.own.length := by omega
    refine ⟨h.n1, h.n4, by simpa using h.o1, by simpa using h.o8, ?_, by simp; omega, by simp; omega, h.l0, by simp; omega, h.c0, by simp; omega, h.a0, by simp; omega, setAt_pw (R := fun a b => a.mv < b.mv) h.srt, setAt_pw (R := fun a b => a.part ≠ b.part) h.par, ?_⟩
    · intro y hy
      rcases List.mem_or_eq_of_mem_set hy with e | e
      · exact h.ow y e
      · rw [e]; exact ⟨hm.d0, hm.dln⟩
    · intro y hy
      rcases mem_setAt h.srt hy with ⟨g1, g2⟩ | ⟨z, g1, g2, g3⟩
      · obtain ⟨h1, h2, h3, h4, h5, h6, h7, h8, h9, h10, h11, h12, h13, h14⟩ := h.mvs y g1
        have hne : x.part.toNat ≠ y.part.toNat := by
          intro e
          have : x = y := part_inj h.par hx g1 (by omega)
          exact g2 (by rw [this])
        refine ⟨h1, h2, h3, by simpa using h4, h5, h6, h7, h8, h9, h10, h11, h12, ?_, ?_⟩
        · rw [getD_set_other hne]; exact h13
        · rw [getD_set_other hne]; exact h14
      · have hz := mv_inj h.srt g1 hx g2
        subst hz
        subst g3
        obtain ⟨h1, h2, h3, h4, h5, h6, h7, h8, h9, h10, h11, h12, h13, h14⟩ := h.mvs z hx
        refine ⟨h1, h2, h3, by simpa using h4, h5, h6, h7, h8, h9, .inr (.inl rfl), .inl rfl, (fun e => by cases e), (fun e => absurd rfl e), fun _ => ?_⟩
        exact getD_set_same hpl _
  · exact h.setAt x hx 3 0 (.inr ⟨h1, rfl⟩) (.inl rfl)

theorem or_01 : bits BinOp.or IntKind.i64 0 1 = 1 := by decide +kernel
theorem or_11 : bits BinOp.or IntKind.i64 1 1 = 1 := by decide +kernel
theorem or_21 : bits BinOp.or IntKind.i64 2 1 = 3 := by decide +kernel
theorem or_02 : bits BinOp.or IntKind.i64 0 2 = 2 := by decide +kernel
theorem or_12 : bits BinOp.or IntKind.i64 1 2 = 3 := by decide +kernel
theorem or_22 : bits BinOp.or IntKind.i64 2 2 = 2 := by decide +kernel

theorem dnOf_of {x : Mv} (h : x.dn = 0 ∨ x.dn = 1 ∨ x.dn = 2) (f : Int) : dnOf x f = 3 ∨ dnOf x f = 0 ∨ dnOf x f = 1 ∨ dnOf x f = 2 := by
  unfold dnOf
  rcases h with h | h | h <;> rw [h] <;> simp only [or_01, or_11, or_21, or_02, or_12, or_22] <;> (split <;> (try split) <;> simp)

theorem Inv.done {E : Int} {k : Nat} {s : St} (h : Inv E k s) (x : Mv) (hx : x ∈ s.L) (h1 : x.st ≠ 1) (f : Int) : Inv E (k + 1) (s.done x f).1 := by
  have hm := h.mvs x hx
  unfold St.done
  simp only
  split
  · have hdel : ∀ (com ab : Int), 0 ≤ com → com ≤ k + 1 → 0 ≤ ab → ab ≤ k + 1 → Inv E (k + 1) { s with L := delMv x.mv s.L, com := com, ab := ab } := by
      intro com ab q1 q2 q3 q4
      have := h.lk; have := h.ek
      exact ⟨h.n1, h.n4, h.o1, h.o8, h.ow, h.e1, by simp; omega, h.l0, by simp; omega, q1, by simpa using q2, q3, by simpa using q4, h.srt.sublist (delMv_sub ..), h.par.sublist (delMv_sub ..), fun y hy => h.mvs y (mem_delMv h.srt hy).1⟩
    have := h.ck; have := h.ak; have := h.c0; have := h.a0
    split
    · exact hdel _ _ (by omega) (by omega) (by omega) (by omega)
    · exact hdel _ _ (by omega) (by omega) (by omega) (by omega)
  · rename_i h3
    exact h.setAt x hx x.st _ (.inl ⟨rfl, h1⟩) ((dnOf_of hm.dn3 f).resolve_left h3)

theorem Inv.handle {E : Int} {k : Nat} {s : St} (h : Inv E k s) (f kind mv part code : Int) : Inv E (k + 1) (s.handle f kind mv part code).1 := by
  unfold St.handle
  split
  · exact h.mono (by omega)
  · rename_i x hx
    have hm : x ∈ s.L := List.mem_of_find?_eq_some hx
    split
    · exact h.mono (by omega)
    split
    · rename_i hc; exact h.ready x hm hc.2.1 code
    split
    · rename_i hc; exact h.done x hm hc.2 f
    · exact h.mono (by omega)

theorem Inv.one {E : Int} {k : Nat} {s : St} (h : Inv E k s) (x : Ac) : Inv E (k + 1) (s.one x).1 := by
  unfold St.one
  split
  · exact h.order _ _
  split
  · exact h.abort _
  split
  · exact h.handle _ _ _ _ _
  · exact h.mono (by omega)

theorem Inv.fine {E : Int} {k : Nat} {s : St} (h : Inv E k s) (hk : k ≤ 100000) (hE : E + k ≤ 2147483647) : Fine s := by
  have := h.len; have := h.o1; have := h.o8; have := h.lk; have := h.ek; have := h.n1; have := h.n4; have := h.e1; have := h.l0
  refine ⟨⟨by omega, by omega⟩, ⟨by omega, by omega⟩, h.n4, ?_, ?_, by omega, ?_⟩
  · intro x hx
    have := h.ow x hx
    exact ⟨by omega, by omega⟩
  · intro e; have h9 := h.o1; rw [e] at h9; simp at h9
  · intro x hx
    obtain ⟨h1, h2, h3, h4, h5, h6, h7, h8, h9, h10, h11, h12, h13, h14⟩ := h.mvs x hx
    exact ⟨⟨by omega, by omega⟩, ⟨by omega, by omega⟩, ⟨by omega, by omega⟩⟩
end

section
/-- two coordinators that were made since w0 -/
def Two (w0 w : World) (a b : Nat) (s t : St) : Prop :=
  ∃ Fa Fb, CR w a Fa s ∧ CR w b Fb t ∧ (∀ k ∈ Fa, k ∉ Fb) ∧ (∀ k ∈ Fa, w0.heap.size ≤ k) ∧ (∀ k ∈ Fb, w0.heap.size ≤ k) ∧ Ext w0 w

theorem Two.symm {w0 w : World} {a b : Nat} {s t : St} (h : Two w0 w a b s t) : Two w0 w b a t s := by
  obtain ⟨Fa, Fb, h1, h2, h3, h4, h5, h6⟩ := h
  exact ⟨Fb, Fa, h2, h1, fun k hk hk2 => h3 k hk2 hk, h5, h4, h6⟩

theorem Two.ext {w0 w w' : World} {a b : Nat} {s t : St} (h : Two w0 w a b s t) (e : Ext w w') : Two w0 w' a b s t := by
  obtain ⟨Fa, Fb, h1, h2, h3, h4, h5, h6⟩ := h
  exact ⟨Fa, Fb, h1.ext e, h2.ext e, h3, h4, h5, h6.trans e⟩

theorem Two.out {w0 w : World} {a b : Nat} {s t : St} (h : Two w0 w a b s t) : Ext w0 w := by
  obtain ⟨Fa, Fb, h1, h2, h3, h4, h5, h6⟩ := h
  exact h6

theorem two_one {w0 w : World} {a b : Nat} {s t : St} (x : Ac) (h : Two w0 w a b s t) (g : Good s) (hx : x.ok) :
    Calls Tryz.prog 32 #[.pointer (some ⟨a, 0, none⟩), .agg x.cells.toArray] w
      (fun e w' => e = .returned (.tuple #[i64 (s.one x).2.1, i64 (s.one x).2.2.1, .bool (s.one x).2.2.2]) ∧ Two w0 w' a b (s.one x).1 t) := by
  obtain ⟨Fa, Fb, h1, h2, h3, h4, h5, h6⟩ := h
  refine (one_calls a Fa s x w h1 g hx).mono ?_
  rintro e w' ⟨he, F', q1, q2, q3⟩
  refine ⟨he, F', Fb, q1, h2.mod q2 (fun k hk hk2 => h3 k hk2 hk), ?_, ?_, h5, ((Mod.of_ext h6).step (S := []) q2 (fun k hk => .inr (h4 k hk))).to_ext (by simp)⟩
  · intro k hk hkb
    rcases q3 k hk with e | e
    · exact h3 k e hkb
    · have := h2.lt k hkb; omega
  · intro k hk
    rcases q3 k hk with e | e
    · exact h4 k e
    · exact Nat.le_trans h6.size e

/-- a block with m cells at least, none frozen -/
def RawRow (w : World) (g m : Nat) : Prop := ∃ cs t, w.heap[g]? = some (.cells cs t (0, 0)) ∧ m ≤ cs.size

theorem RawRow.at {w : World} {g m : Nat} (h : RawRow w g m) {i : Nat} (hi : i < m) : (∃ v, w.cell? ⟨g, i, none⟩ = some v) ∧ w.frozen? ⟨g, i, none⟩ = false := by
  obtain ⟨cs, t, hh, hm⟩ := h
  refine ⟨⟨cs[i], ?_⟩, by simp [World.frozen?, hh]⟩
  simp [World.cell?, hh, show i < cs.size by omega]

theorem RawRow.set {w : World} {g m : Nat} (h : RawRow w g m) (i : Nat) (v : Value) : RawRow (w.setCell ⟨g, i, none⟩ v) g m := by
  obtain ⟨cs, t, hh, hm⟩ := h
  exact ⟨cs.setIfInBounds i v, t, heap_setCell_same w g i cs t v hh, by simpa using hm⟩

theorem RawRow.ext {w w' : World} {g m : Nat} (h : RawRow w g m) (e : Ext w w') : RawRow w' g m := by
  obtain ⟨cs, t, hh, hm⟩ := h
  exact ⟨cs, t, (e.block g (lt_of_block hh)).trans hh, hm⟩

/-- a row of n elements of size z at A, in blocks from B on -/
def OwnRow (B : Nat) (w : World) (A : Option Addr) (n z : Nat) : Prop := 0 < n → ∃ g, A = some ⟨g, 0, none⟩ ∧ B ≤ g ∧ RawRow w g (n * z)

theorem OwnRow.of_own {w : World} {base B : Nat} {e : TypeId} {z n : Nat} {A : Option Addr} {c : Nat} {xs : List Value} (h : w.ownsRow base e z (.slice A n c) n xs) (hB : ∀ q, (Value.slice A n c).ownBlock = some q → B ≤ q) : OwnRow B w A n z := by
  intro hn
  obtain ⟨hl, h2⟩ := h
  rcases h2 with ⟨_, h0⟩ | ⟨g, cap, cur, e, hb, hh, hc, hm, hs, ht⟩
  · omega
  · injection e with e1 e2 e3
    subst e1; subst e3
    exact ⟨g, rfl, hB g rfl, cur, _, hh, by rw [hs]; exact Nat.mul_le_mul_right _ hc⟩

theorem OwnRow.ext {B : Nat} {w w' : World} {A : Option Addr} {n z : Nat} (h : OwnRow B w A n z) (e : Ext w w') : OwnRow B w' A n z := by
  intro hn
  obtain ⟨g, h1, h2, h3⟩ := h hn
  exact ⟨g, h1, h2, h3.ext e⟩

theorem tick_pos (s : St) (h : 1 ≤ s.n) : 0 < s.tick.length := by
  unfold St.tick
  simp
  omega

theorem movePk_le2 (s : St) (x : Mv) : (movePk s x).length ≤ 2 := by
  unfold movePk
  split
  · simp
  split
  · split <;> split <;> simp
  · split <;> split <;> simp

theorem flat_le {α β : Type} (f : α → List β) (c : Nat) (L : List α) (h : ∀ x ∈ L, (f x).length ≤ c) : (L.flatMap f).length ≤ L.length * c := by
  induction L with
  | nil => simp
  | cons x L ih =>
    rw [List.flatMap_cons, List.length_append, List.length_cons, Nat.add_mul]
    have := ih (fun y hy => h y (by simp [hy]))
    have := h x (by simp)
    omega

theorem tick_le (s : St) (h : s.L.length ≤ 12) (hn : s.n ≤ 4) : s.tick.length ≤ 32 := by
  unfold St.tick
  have := flat_le (movePk s) 2 s.L (fun x _ => movePk_le2 s x)
  simp only [List.length_append, List.length_map, List.length_range]
  omega

/-- what a tick leaves: packets of one's own -/
def TickOwn (s : St) (w : World) (e : Ending) (w' : World) : Prop :=
  ∃ A c, e = .returned (.slice A s.tick.length c) ∧ PkRow w' (.slice A s.tick.length c) s.tick ∧ OwnRow w.heap.size w' A s.tick.length 3 ∧ Ext w w'

theorem own_tick {w : World} {a : Nat} {F : List Nat} {s : St} (h : CR w a F s) (g : Good s) (f : Fine s) (hn : 1 ≤ s.n) :
    Calls Tryz.prog 13 #[.pointer (some ⟨a, 0, none⟩)] w (TickOwn s w) := by
  refine (tick_calls a F s w h g.l12 g.srt f).mono ?_
  intro e w' q
  unfold TickPost at q
  obtain ⟨v, rfl, ho, hv, hE⟩ := q
  obtain ⟨A, c, rfl⟩ := ownsRow_slice ho
  exact ⟨A, c, rfl, PkRow.of_row ho (tick_pos s hn), OwnRow.of_own ho hv, hE⟩

def MovesOwn (s : St) (w : World) (e : Ending) (w' : World) : Prop :=
  ∃ A c, e = .returned (.slice A s.L.length c) ∧ MvRow w' (.slice A s.L.length c) s.L ∧ OwnRow w.heap.size w' A s.L.length 6 ∧ Ext w w'

theorem own_moves {w : World} {a : Nat} {F : List Nat} {s : St} (h : CR w a F s) (g : Good s) :
    Calls Tryz.prog 21 #[.pointer (some ⟨a, 0, none⟩)] w (MovesOwn s w) := by
  refine (moves_calls a F s w h g.l12 g.srt).mono ?_
  intro e w' q
  unfold MovesPost at q
  obtain ⟨v, rfl, ho, hE⟩ := q
  obtain ⟨A, c, rfl⟩ := ownsRow_slice ho
  exact ⟨A, c, rfl, MvRow.of_own ho, OwnRow.of_own ho (fun q hq => (World.ownsRow.lt ho q hq).1), hE⟩

theorem two_tick {w0 w : World} {a b : Nat} {s t : St} (h : Two w0 w a b s t) (g : Good s) (f : Fine s) (hn : 1 ≤ s.n) :
    Calls Tryz.prog 13 #[.pointer (some ⟨a, 0, none⟩)] w (TickOwn s w) := by
  obtain ⟨Fa, Fb, h1, h2, h3, h4, h5, h6⟩ := h
  exact own_tick h1 g f hn

theorem two_moves {w0 w : World} {a b : Nat} {s t : St} (h : Two w0 w a b s t) (g : Good s) :
    Calls Tryz.prog 21 #[.pointer (some ⟨a, 0, none⟩)] w (MovesOwn s w) := by
  obtain ⟨Fa, Fb, h1, h2, h3, h4, h5, h6⟩ := h
  exact own_moves h1 g

/-- what Table leaves -/
def TableOwn (s : St) (w : World) (e : Ending) (w' : World) : Prop :=
  ∃ q qc, e = .returned (.agg #[i64 s.ep, i64 s.n, .slice (some ⟨q, 0, none⟩) s.own.length qc]) ∧ w'.ownsRow w.heap.size 3 1 (.slice (some ⟨q, 0, none⟩) s.own.length qc) s.own.length (s.own.map i64) ∧ Ext w w'

theorem table_own (c : Nat) (F : List Nat) (s : St) (w : World) (h : CR w c F s) (hl : s.own.length ≤ 4096) (h0 : 0 < s.own.length) :
    Calls Tryz.prog 16 #[.pointer (some ⟨c, 0, none⟩)] w (TableOwn s w) := by
  have e1 : Ext w (w.alloc (.cells #[i64 0, i64 0, .slice none 0 0] 28)) := by (refine Mod.to_ext (S := []) ?_ (by simp); repeat (first | (with_reducible exact Mod.refl _ _) | (with_reducible assumption) | (with_reducible refine Mod.alloc ?_ _) | (with_reducible refine Mod.drew ?_) | (with_reducible refine Mod.drewN ?_ _)))
  have hno := none_calls c F s _ (h.ext e1)
  obtain ⟨ob, oc, b, a, m, rfl, h⟩ := h
  have k0 := (h.ext e1).blk.read.1
  simp only [coordCells] at k0
  have hlt := h.blk.lt
  have R := copy_calls s.ep s.n ob 0 oc s.own _ hl (h.ext e1).own h0
  have b2 := Blk.new w [i64 0, i64 0, .slice none 0 0] 28
  have j0 := k0 0
  have j1 := k0 1
  have j2 := k0 2
  simp only [List.getElem?_cons_succ, List.getElem?_cons_zero] at j0 j1 j2
  have HE1 := Lib.hid e1
  have HB2 := Lib.hid b2
  clear k0 h e1 b2
  go_enter Tryz.func16, Tryz.ntmps16
  go_wp2_with fail
  refine hno.mono ?_
  rintro e w1 ⟨rfl, rfl⟩
  clear hno
  go_wp2_with fail
  refine R.mono ?_
  intro e w3 q0
  unfold NewTable at q0
  obtain ⟨g, gc, rfl, ho, hE3⟩ := q0
  have HO := Lib.hid ho
  obtain ⟨g', gc', heq, hg0, hg1, hI, _⟩ := ownsRow_IA ho h0
  have hgg : g = g' := by injection heq with h1 _ _; injection h1 with h1; injection h1 with h1
  subst hgg
  simp only [World.size_alloc] at hg0
  have hb3 := HB2.out.ext hE3
  obtain ⟨x0, z0⟩ := hb3.read
  have HB3 := Lib.hid hb3
  have HI := Lib.hid hI
  have HE3 := Lib.hid (HE1.out.trans hE3)
  clear hb3 hI hE3 ho heq R j0 j1 j2
  go_wp2_with fail
  have hbl := ((HB3.out.set 0 (i64 s.ep)).set 1 (i64 s.n)).set 2 (.slice (some ⟨g, 0, none⟩) s.own.length gc)
  refine bodyPost_ret (v := .agg #[i64 s.ep, i64 s.n, .slice (some ⟨g, 0, none⟩) s.own.length gc]) (results_cell_row rfl _ _ w.heap.size 28 _ (0, 0) _ rfl hbl Tryz.underlying28 rfl (by kernel_rfl)) rfl ?_
  unfold TableOwn
  refine ⟨g, gc, rfl, ownsRow_base (ownsRow_mod (S := [w.heap.size]) HO.out (by repeat (first | (with_reducible exact Mod.refl _ _) | (with_reducible assumption) | (with_reducible refine Mod.setCell ?_ (by simp) _) | (with_reducible refine Mod.alloc ?_ _) | (with_reducible refine Mod.drew ?_) | (with_reducible refine Mod.drewN ?_ _))) (by intro x hx; simp at hx; subst hx; simp)) (by simp), ?_⟩
  have M0 : Mod [w.heap.size] w w3 := Mod.of_ext HE3.out
  refine Mod.to_ext (S := [w.heap.size]) ?_ (by simp)
  repeat (first | (with_reducible exact Mod.refl _ _) | (with_reducible assumption) | (with_reducible refine Mod.setCell ?_ (by simp) _) | (with_reducible refine Mod.alloc ?_ _) | (with_reducible refine Mod.drew ?_) | (with_reducible refine Mod.drewN ?_ _))

/-- a row of ints of one's own: it reads so, and may be written over -/
theorem own_ints {w : World} {base q qc : Nat} {xs : List Int} (h : w.ownsRow base 3 1 (.slice (some ⟨q, 0, none⟩) xs.length qc) xs.length (xs.map i64)) (h0 : 0 < xs.length) :
    IA w q 0 xs ∧ base ≤ q ∧ q < w.heap.size ∧ RawRow w q xs.length := by
  obtain ⟨g, gc, e, hb, hg, hI, _⟩ := ownsRow_IA h h0
  injection e with e1 e2 e3
  injection e1 with e1
  injection e1 with e1
  subst e1
  obtain ⟨g, h1, h2, h3⟩ := (OwnRow.of_own (B := 0) h (fun _ _ => Nat.zero_le _)) h0
  injection h1 with h1
  injection h1 with h1
  subst h1
  exact ⟨hI, hb, hg, by simpa using h3⟩

theorem two_table {w0 w : World} {a b : Nat} {s t : St} (h : Two w0 w a b s t) (g : Good s) :
    Calls Tryz.prog 16 #[.pointer (some ⟨a, 0, none⟩)] w (TableOwn s w) := by
  obtain ⟨Fa, Fb, h1, h2, h3, h4, h5, h6⟩ := h
  have := g.ol
  exact table_own a Fa s w h1 (by omega) g.o0

theorem two_ended {w0 w : World} {a b : Nat} {s t : St} (h : Two w0 w a b s t) :
    Calls Tryz.prog 19 #[.pointer (some ⟨a, 0, none⟩)] w (fun e w' => e = .returned (.tuple #[i64 s.com, i64 s.ab]) ∧ Ext w w') := by
  obtain ⟨Fa, Fb, h1, h2, h3, h4, h5, h6⟩ := h
  exact ended_calls a Fa s w h1

/-- two that were made one behind the other -/
theorem Two.made {w0 w1 w2 w3 w4 : World} {a b : Nat} {Fa Fb : List Nat} {s t : St} (e1 : Ext w0 w1) (h1 : CR w2 a Fa s) (h2 : ∀ k ∈ Fa, w1.heap.size ≤ k) (e2 : Ext w1 w2) (e3 : Ext w2 w3)
    (h4 : CR w4 b Fb t) (h5 : ∀ k ∈ Fb, w3.heap.size ≤ k) (e4 : Ext w3 w4) : Two w0 w4 a b s t := by
  refine ⟨Fa, Fb, h1.ext (e3.trans e4), h4, ?_, ?_, ?_, ((e1.trans e2).trans e3).trans e4⟩
  · intro k hk hk2
    have := h1.lt k hk; have := h5 k hk2; have := e3.size; omega
  · intro k hk
    exact Nat.le_trans e1.size (h2 k hk)
  · intro k hk
    exact Nat.le_trans ((e1.trans e2).trans e3).size (h5 k hk)
end
end Go.Proofs.YtchmhkdnegngdaaGreat
