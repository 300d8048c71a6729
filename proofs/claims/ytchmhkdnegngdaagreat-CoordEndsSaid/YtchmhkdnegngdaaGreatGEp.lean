/- CoordEnds, the plain law: three rounds of answers end all moves. CoordEnds, the plain law, further: a round as one step; three of them. -/
import Derived.Test.YtchmhkdnegngdaaGreatGIv
set_option linter.unusedVariables false
set_option linter.unusedSimpArgs false
namespace Go.Proofs.YtchmhkdnegngdaaGreat
open Go.RowKit

section
/-- what goes out, unpacked -/
def moveMs (s : St) (x : Mv) : List (Int × Ms) :=
  if x.st = 1 then [(x.fr, prepMs x)]
  else if x.st = 2 then (if unk x.dn 1 && !unk x.dn 2 then [(x.fr, commitMs s x)] else []) ++ (if unk x.dn 2 then [(x.dst, commitMs s x)] else [])
  else (if unk x.dn 1 then [(x.fr, abortMs x)] else []) ++ (if unk x.dn 2 then [(x.dst, abortMs x)] else [])
def tableMsL (s : St) : List (Int × Ms) := (List.range s.n.toNat).map (fun (i : Nat) => ((i : Int), tableMs s)) ++ (List.range 4).map (fun (i : Nat) => ((4 + i : Int), tableMs s))
def tickMs (s : St) : List (Int × Ms) := s.L.flatMap (moveMs s) ++ tableMsL s
def pk (p : Int × Ms) : Int × ByteArray := (p.1, dataS p.2)

theorem movePk_ms (s : St) (x : Mv) : movePk s x = (moveMs s x).map pk := by
  unfold movePk moveMs
  split
  · rfl
  split
  · split <;> split <;> rfl
  · split <;> split <;> rfl

theorem tick_ms (s : St) : s.tick = (tickMs s).map pk := by
  unfold St.tick tickMs tableMsL
  rw [List.map_append, List.map_append, List.map_flatMap, List.map_map, List.map_map, List.append_assoc]
  congr 1
  congr 1
  funext x
  exact movePk_ms s x

/-- what an answer does -/
def ans (t : St) (p : Int × Ms) : St :=
  match p.2 with
  | .prep mv part dst => (t.handle dst 10 mv part 1).1
  | .commit mv part _ _ _ => (t.handle p.1 13 mv part 0).1
  | .abort mv part => (t.handle p.1 13 mv part 0).1
  | .table _ _ _ => t

theorem Inv.ans {E : Int} {k : Nat} {t : St} (h : Inv E k t) (p : Int × Ms) : Inv E (k + 1) (ans t p) := by
  unfold Go.Proofs.YtchmhkdnegngdaaGreat.ans
  split
  · exact h.handle _ _ _ _ _
  · exact h.handle _ _ _ _ _
  · exact h.handle _ _ _ _ _
  · exact h.mono (by omega)

theorem Inv.anss {E : Int} : ∀ (l : List (Int × Ms)) {k : Nat} {t : St}, Inv E k t → Inv E (k + l.length) (l.foldl Go.Proofs.YtchmhkdnegngdaaGreat.ans t)
  | [], k, t, h => h
  | p :: l, k, t, h => by
    have := Inv.anss l (h.ans p)
    simpa [Nat.add_assoc, Nat.add_comm 1] using this

theorem unk_01 : unk 0 1 = true := by decide +kernel
theorem unk_11 : unk 1 1 = false := by decide +kernel
theorem unk_21 : unk 2 1 = true := by decide +kernel
theorem unk_02 : unk 0 2 = true := by decide +kernel
theorem unk_12 : unk 1 2 = true := by decide +kernel
theorem unk_22 : unk 2 2 = false := by decide +kernel

/-- what a round makes of a move -/
def nx (x : Mv) : Option Mv := if x.st = 1 then some { x with st := 2, dn := 0 } else if x.st = 2 ∧ x.dn = 0 then some { x with dn := 2 } else none

/-- .. and of a state -/
def stepMv (t : St) (P : List Mv) (x : Mv) (R : List Mv) : St :=
  if x.st = 1 then { t with ep := t.ep + 1, own := t.own.set x.part.toNat x.dst, L := P ++ { x with st := 2, dn := 0 } :: R }
  else if x.st = 2 then (if x.dn = 0 then { t with L := P ++ { x with dn := 2 } :: R } else { t with L := P ++ R, com := t.com + 1 })
  else { t with L := P ++ R, ab := t.ab + 1 }

theorem setAt_mid {k st dn : Int} {P R : List Mv} {x : Mv} (hP : ∀ y ∈ P, y.mv ≠ x.mv) (hk : k = x.mv) : setAt k st dn (P ++ x :: R) = P ++ { x with st := st, dn := dn } :: R := by
  subst hk
  induction P with
  | nil => simp [setAt]
  | cons y P ih =>
    rw [List.cons_append, setAt, if_neg (fun e => hP y (by simp) e.symm), ih (fun z hz => hP z (by simp [hz]))]
    rfl

theorem delMv_mid {k : Int} {P R : List Mv} {x : Mv} (hP : ∀ y ∈ P, y.mv ≠ x.mv) (hk : k = x.mv) : delMv k (P ++ x :: R) = P ++ R := by
  subst hk
  induction P with
  | nil => simp [delMv]
  | cons y P ih =>
    rw [List.cons_append, delMv, if_neg (fun e => hP y (by simp) e.symm), ih (fun z hz => hP z (by simp [hz]))]
    rfl

theorem byMv_mid {t : St} {P R : List Mv} {x : Mv} (hL : t.L = P ++ x :: R) (hP : ∀ y ∈ P, y.mv ≠ x.mv) : t.byMv x.mv = some x := by
  unfold St.byMv
  rw [hL, List.find?_append, List.find?_eq_none.2 (by intro y hy; simpa using hP y hy), Option.none_or, List.find?_cons_of_pos (by simp)]

theorem pre_ne {t : St} {P R : List Mv} {x : Mv} (hs : t.L.Pairwise (fun x y => x.mv < y.mv)) (hL : t.L = P ++ x :: R) : ∀ y ∈ P, y.mv ≠ x.mv := by
  intro y hy
  rw [hL, List.pairwise_append] at hs
  have := hs.2.2 y hy x (by simp)
  omega

theorem handle_done {E : Int} {k : Nat} {t : St} (h : Inv E k t) {P R : List Mv} {x : Mv} (hL : t.L = P ++ x :: R) (hst : x.st ≠ 1) (f : Int) :
    (t.handle f 13 x.mv x.part 0).1 = (if dnOf x f = 3 then (if x.st = 2 then { t with L := P ++ R, com := t.com + 1 } else { t with L := P ++ R, ab := t.ab + 1 }) else { t with L := P ++ { x with st := x.st, dn := dnOf x f } :: R }) := by
  have hP := pre_ne h.srt hL
  unfold St.handle
  rw [byMv_mid hL hP]
  simp only
  rw [if_neg (by simp), if_neg (by simp), if_pos (by simp [hst])]
  unfold St.done
  simp only [hL]
  rw [delMv_mid hP rfl, setAt_mid hP rfl]

theorem handle_ready {E : Int} {k : Nat} {t : St} (h : Inv E k t) (hE : E + k < 2147483647) {P R : List Mv} {x : Mv} (hL : t.L = P ++ x :: R) (hst : x.st = 1) :
    (t.handle x.dst 10 x.mv x.part 1).1 = { t with ep := t.ep + 1, own := t.own.set x.part.toNat x.dst, L := P ++ { x with st := 2, dn := 0 } :: R } := by
  have hP := pre_ne h.srt hL
  have hx : x ∈ t.L := by rw [hL]; simp
  have hm := h.mvs x hx
  have hek := h.ek
  have hmay : mayV t.ep t.n t.own x.part x.dst = 0 := by
    rw [mayV_iff]
    refine ⟨h.right, by omega, hm.p0, hm.pl, hm.d0, hm.dln, ?_⟩
    rw [hm.ow (by omega)]
    exact hm.ne
  unfold St.handle
  rw [byMv_mid hL hP]
  simp only
  rw [if_neg (by simp), if_pos (by simp [hst])]
  unfold St.ready
  rw [if_pos (by simp [hmay])]
  simp only [hL]
  rw [setAt_mid hP rfl]

theorem dnOf_fr {x : Mv} (d : Int) : dnOf { x with dn := d } x.fr = bits BinOp.or IntKind.i64 d 1 := by unfold dnOf; simp
theorem dnOf_dst {x : Mv} (hne : x.fr ≠ x.dst) (d : Int) : dnOf { x with dn := d } x.dst = bits BinOp.or IntKind.i64 d 2 := by unfold dnOf; simp [Ne.symm hne]

/-- a move's own packets, answered -/
theorem step_mv {E : Int} {k : Nat} {s t : St} (h : Inv E k t) (hE : E + k < 2147483647) {P R : List Mv} {x : Mv} (hL : t.L = P ++ x :: R) :
    (moveMs s x).foldl ans t = stepMv t P x R := by
  have hx : x ∈ t.L := by rw [hL]; simp
  have hm := h.mvs x hx
  have c1 : ((x.mv.toNat : Nat) : Int) = x.mv := by have := hm.m1; omega
  have c2 : ((x.part.toNat : Nat) : Int) = x.part := by have := hm.p0; omega
  have c3 : ((x.dst.toNat : Nat) : Int) = x.dst := by have := hm.d0; omega
  have eP : ∀ t, ans t (x.fr, prepMs x) = (t.handle x.dst 10 x.mv x.part 1).1 := by intro t; unfold ans prepMs; simp only [c1, c2, c3]
  have eC : ∀ t f, ans t (f, commitMs s x) = (t.handle f 13 x.mv x.part 0).1 := by intro t f; unfold ans commitMs; simp only [c1, c2]
  have eA : ∀ t f, ans t (f, abortMs x) = (t.handle f 13 x.mv x.part 0).1 := by intro t f; unfold ans abortMs; simp only [c1, c2]
  have hfr : ∀ d, dnOf { x with dn := d } x.fr = bits BinOp.or IntKind.i64 d 1 := dnOf_fr
  have hds : ∀ d, dnOf { x with dn := d } x.dst = bits BinOp.or IntKind.i64 d 2 := dnOf_dst hm.ne
  have hfr0 : dnOf x x.fr = bits BinOp.or IntKind.i64 x.dn 1 := hfr x.dn
  have hds0 : dnOf x x.dst = bits BinOp.or IntKind.i64 x.dn 2 := hds x.dn
  unfold moveMs stepMv
  rcases hm.st3 with e | e | e
  · rw [if_pos e, if_pos e]
    simp only [List.foldl_cons, List.foldl_nil, eP]
    exact handle_ready h hE hL e
  · have e1 : x.st ≠ 1 := by omega
    rw [if_neg e1, if_neg e1, if_pos e, if_pos e]
    rcases hm.dn3 with d | d | d
    · rw [d, unk_01, unk_02, if_pos rfl]
      simp only [Bool.not_true, Bool.and_false, Bool.false_eq_true, if_false, if_true, List.nil_append, List.foldl_cons, List.foldl_nil, eC]
      rw [handle_done h hL e1, hds0, d, or_02, if_neg (by decide)]
    · rw [d, unk_11, unk_12]
      simp only [Bool.not_true, Bool.and_false, Bool.false_eq_true, if_false, if_true, List.nil_append, List.foldl_cons, List.foldl_nil, eC]
      rw [handle_done h hL e1, hds0, d, or_12, if_pos rfl, if_pos e, if_neg (show ¬ (1 : Int) = 0 by decide)]
    · rw [d, unk_21, unk_22]
      simp only [Bool.not_false, Bool.and_true, Bool.false_eq_true, if_false, if_true, List.append_nil, List.foldl_cons, List.foldl_nil, eC]
      rw [handle_done h hL e1, hfr0, d, or_21, if_pos rfl, if_pos e, if_neg (show ¬ (2 : Int) = 0 by decide)]
  · have e1 : x.st ≠ 1 := by omega
    have e2 : x.st ≠ 2 := by omega
    rw [if_neg e1, if_neg e1, if_neg e2, if_neg e2]
    rcases hm.dn3 with d | d | d
    · rw [d, unk_01, unk_02]
      simp only [if_true, List.singleton_append, List.foldl_cons, List.foldl_nil, eA]
      have q1 := handle_done h hL e1 x.fr
      rw [hfr0, d, or_01, if_neg (by decide)] at q1
      rw [q1]
      have hi := h.handle x.fr 13 x.mv x.part 0
      rw [q1] at hi
      have q2 := handle_done (t := { t with L := P ++ { x with st := x.st, dn := 1 } :: R }) hi (P := P) (R := R) (x := { x with st := x.st, dn := 1 }) rfl e1 x.dst
      have hd1 := hds 1
      simp only at q2 hd1
      rw [hd1, or_12, if_pos rfl, if_neg e2] at q2
      exact q2
    · rw [d, unk_11, unk_12]
      simp only [Bool.false_eq_true, if_false, if_true, List.nil_append, List.foldl_cons, List.foldl_nil, eA]
      rw [handle_done h hL e1, hds0, d, or_12, if_pos rfl, if_neg e2]
    · rw [d, unk_21, unk_22]
      simp only [Bool.false_eq_true, if_false, if_true, List.append_nil, List.foldl_cons, List.foldl_nil, eA]
      rw [handle_done h hL e1, hfr0, d, or_21, if_pos rfl, if_neg e2]
end

section
theorem stepMv_L {t : St} {P R : List Mv} {x : Mv} : (stepMv t P x R).L = (P ++ (nx x).toList) ++ R := by
  unfold stepMv nx
  by_cases h1 : x.st = 1
  · rw [if_pos h1, if_pos h1]; simp
  · rw [if_neg h1, if_neg h1]
    by_cases h2 : x.st = 2
    · rw [if_pos h2]
      by_cases h0 : x.dn = 0
      · rw [if_pos h0, if_pos ⟨h2, h0⟩]; simp
      · rw [if_neg h0, if_neg (fun e => h0 e.2)]; simp
    · rw [if_neg h2, if_neg (fun e => h2 e.1)]; simp

theorem moveMs_len (s : St) (x : Mv) : (moveMs s x).length ≤ 2 := by
  have := movePk_le2 s x
  rw [movePk_ms, List.length_map] at this
  exact this

def rndL : St → List Mv → List Mv → St
  | t, _, [] => t
  | t, P, x :: R => rndL (stepMv t P x R) (P ++ (nx x).toList) R

theorem round_list {E : Int} {s : St} : ∀ (R P : List Mv) (k : Nat) (t : St), Inv E k t → E + k + 2 * R.length < 2147483647 → t.L = P ++ R → (R.flatMap (moveMs s)).foldl ans t = rndL t P R
  | [], P, k, t, h, hE, hL => rfl
  | x :: R, P, k, t, h, hE, hL => by
    simp only [List.length_cons] at hE
    rw [List.flatMap_cons, List.foldl_append, rndL]
    have hst := step_mv (s := s) h (by omega) hL
    have hi := Inv.anss (moveMs s x) h
    rw [hst] at hi ⊢
    have hl := moveMs_len s x
    exact round_list R _ (k + (moveMs s x).length) _ hi (by omega) stepMv_L

/-- moves that are not to be aborted; those that are -/
def cN (L : List Mv) : Nat := L.countP (fun x => x.st != 3)
def cA (L : List Mv) : Nat := L.countP (fun x => x.st == 3)

theorem stepMv_cnt {t : St} {P R : List Mv} {x : Mv} (h3 : x.st = 1 ∨ x.st = 2 ∨ x.st = 3) (hL : t.L = P ++ x :: R) :
    (stepMv t P x R).com + cN (stepMv t P x R).L = t.com + cN t.L ∧ (stepMv t P x R).ab + cA (stepMv t P x R).L = t.ab + cA t.L := by
  unfold stepMv cN cA
  rcases h3 with e | e | e
  · rw [if_pos e]; simp [hL, List.countP_append, List.countP_cons, e]
  · rw [if_neg (by omega), if_pos e]
    by_cases h0 : x.dn = 0
    · rw [if_pos h0]; simp [hL, List.countP_append, List.countP_cons, e]
    · rw [if_neg h0]; simp [hL, List.countP_append, List.countP_cons, e]; omega
  · rw [if_neg (by omega), if_neg (by omega)]; simp [hL, List.countP_append, List.countP_cons, e]; omega

theorem rndL_cnt : ∀ (R P : List Mv) (t : St), (∀ x ∈ R, x.st = 1 ∨ x.st = 2 ∨ x.st = 3) → t.L = P ++ R →
    (rndL t P R).com + cN (rndL t P R).L = t.com + cN t.L ∧ (rndL t P R).ab + cA (rndL t P R).L = t.ab + cA t.L ∧ (rndL t P R).L = P ++ R.filterMap nx
  | [], P, t, h, hL => ⟨rfl, rfl, by simpa [rndL] using hL⟩
  | x :: R, P, t, h, hL => by
    rw [rndL]
    obtain ⟨h1, h2, h3⟩ := rndL_cnt R (P ++ (nx x).toList) (stepMv t P x R) (fun y hy => h y (by simp [hy])) stepMv_L
    obtain ⟨g1, g2⟩ := stepMv_cnt (h x (by simp)) hL
    refine ⟨h1.trans g1, h2.trans g2, ?_⟩
    rw [h3, List.filterMap_cons]
    cases nx x <;> simp

/-- what a round makes of the owners -/
def ownR (R : List Mv) (o : List Int) : List Int := R.foldl (fun o x => if x.st = 1 then o.set x.part.toNat x.dst else o) o

theorem stepMv_own {t : St} {P R : List Mv} {x : Mv} : (stepMv t P x R).own = if x.st = 1 then t.own.set x.part.toNat x.dst else t.own := by
  unfold stepMv
  by_cases h1 : x.st = 1
  · rw [if_pos h1, if_pos h1]
  · rw [if_neg h1, if_neg h1]
    split
    · split <;> rfl
    · rfl

theorem rndL_own : ∀ (R P : List Mv) (t : St), (rndL t P R).own = ownR R t.own
  | [], P, t => rfl
  | x :: R, P, t => by
    rw [rndL, rndL_own R _ _, stepMv_own]
    unfold ownR
    rw [List.foldl_cons]

theorem ownR_none : ∀ (R : List Mv) (o : List Int), (∀ x ∈ R, x.st ≠ 1) → ownR R o = o
  | [], o, _ => rfl
  | x :: R, o, h => by
    unfold ownR
    rw [List.foldl_cons, if_neg (h x (by simp))]
    exact ownR_none R o (fun y hy => h y (by simp [hy]))

theorem ownR_len : ∀ (R : List Mv) (o : List Int), (ownR R o).length = o.length
  | [], o => rfl
  | x :: R, o => by
    unfold ownR
    rw [List.foldl_cons]
    have := ownR_len R (if x.st = 1 then o.set x.part.toNat x.dst else o)
    unfold ownR at this
    rw [this]
    split <;> simp

/-- at a shard that none of these moves is of -/
theorem ownR_other : ∀ (R : List Mv) (o : List Int) (p : Nat), (∀ x ∈ R, x.part.toNat ≠ p) → (ownR R o).getD p 0 = o.getD p 0
  | [], o, p, _ => rfl
  | x :: R, o, p, h => by
    unfold ownR
    rw [List.foldl_cons]
    have := ownR_other R (if x.st = 1 then o.set x.part.toNat x.dst else o) p (fun y hy => h y (by simp [hy]))
    unfold ownR at this
    rw [this]
    split
    · exact getD_set_other (h x (by simp)) _
    · rfl

theorem ownR_at : ∀ (R : List Mv) (o : List Int), R.Pairwise (fun x y => x.part ≠ y.part) → (∀ x ∈ R, 0 ≤ x.part ∧ x.part < o.length) → ∀ x ∈ R, (ownR R o).getD x.part.toNat 0 = if x.st = 1 then x.dst else o.getD x.part.toNat 0
  | [], o, _, _, x, hx => by cases hx
  | y :: R, o, hp, hb, x, hx => by
    rw [List.pairwise_cons] at hp
    rcases List.mem_cons.1 hx with e | e
    · subst e
      have h0 := hb x (by simp)
      unfold ownR
      rw [List.foldl_cons]
      have := ownR_other R (if x.st = 1 then o.set x.part.toNat x.dst else o) x.part.toNat (fun z hz e => hp.1 z hz (by have := hb z (by simp [hz]); omega))
      unfold ownR at this
      rw [this]
      split
      · exact getD_set_same (by omega) _
      · rfl
    · have hne : y.part.toNat ≠ x.part.toNat := fun e2 => hp.1 x e (by have := hb x (by simp [e]); have := hb y (by simp); omega)
      unfold ownR
      rw [List.foldl_cons]
      have := ownR_at R (if y.st = 1 then o.set y.part.toNat y.dst else o) hp.2 (by
        intro z hz
        have := hb z (by simp [hz])
        split <;> simpa using this) x e
      unfold ownR at this
      rw [this]
      split
      · rfl
      · split
        · exact getD_set_other hne _
        · rfl

/-- a round -/
def rnd (s : St) : St := (tickMs s).foldl ans s

theorem foldl_table (s : St) : ∀ (l : List (Int × Ms)) (t : St), (∀ p ∈ l, ∃ a b c, p.2 = .table a b c) → l.foldl ans t = t
  | [], t, _ => rfl
  | p :: l, t, h => by
    rw [List.foldl_cons]
    obtain ⟨a, b, c, e⟩ := h p (by simp)
    have : ans t p = t := by unfold ans; rw [e]
    rw [this]
    exact foldl_table s l t (fun q hq => h q (by simp [hq]))

theorem rnd_eq {E : Int} {k : Nat} {s : St} (h : Inv E k s) (hE : E + k + 16 < 2147483647) : rnd s = rndL s [] s.L := by
  have := h.len
  unfold rnd tickMs
  rw [List.foldl_append, round_list s.L [] k s h (by omega) rfl]
  refine foldl_table s _ _ ?_
  intro p hp
  unfold tableMsL at hp
  rcases List.mem_append.1 hp with e | e <;> (obtain ⟨i, _, rfl⟩ := List.mem_map.1 e; exact ⟨_, _, _, rfl⟩)

theorem tickMs_len {E : Int} {k : Nat} {s : St} (h : Inv E k s) : (tickMs s).length ≤ 32 := by
  have h1 := tick_le s (by have := h.len; omega) h.n4
  rw [tick_ms, List.length_map] at h1
  exact h1

theorem Inv.rnd {E : Int} {k : Nat} {s : St} (h : Inv E k s) : Inv E (k + 32) (Go.Proofs.YtchmhkdnegngdaaGreat.rnd s) :=
  (Inv.anss (tickMs s) h).mono (by have := tickMs_len h; omega)

theorem rnd_own_len {E : Int} {k : Nat} {s : St} (h : Inv E k s) (hE : E + k + 16 < 2147483647) : (Go.Proofs.YtchmhkdnegngdaaGreat.rnd s).own.length = s.own.length := by
  rw [rnd_eq h hE, rndL_own, ownR_len]

theorem nx_st {x y : Mv} (h : nx x = some y) : y.st = 2 ∧ (y.dn = 0 ∨ y.dn = 2) ∧ (x.st = 2 → y.dn = 2) := by
  unfold nx at h
  split at h
  · rename_i h1
    injection h with h; subst h
    exact ⟨rfl, .inl rfl, fun e => by omega⟩
  · split at h
    · rename_i h2
      injection h with h; subst h
      exact ⟨h2.1, .inr rfl, fun _ => rfl⟩
    · cases h

/-- the law: three rounds end all moves -/
theorem three_rounds {E : Int} {k : Nat} {s : St} (h : Inv E k s) (hE : E + k + 200 < 2147483647) :
    (rnd (rnd (rnd s))).L = [] ∧ (rnd (rnd (rnd s))).com = s.com + cN s.L ∧ (rnd (rnd (rnd s))).ab = s.ab + cA s.L ∧
    ∀ x ∈ s.L, (rnd (rnd (rnd s))).own.getD x.part.toNat 0 = if x.st = 3 then x.fr else x.dst := by
  have i1 := h.rnd
  have i2 := i1.rnd
  have q1 := rndL_cnt s.L [] s (fun x hx => (h.mvs x hx).st3) rfl
  have o1 := rndL_own s.L [] s
  rw [← rnd_eq h (by omega)] at q1 o1
  have q2 := rndL_cnt (rnd s).L [] (rnd s) (fun x hx => (i1.mvs x hx).st3) rfl
  have o2 := rndL_own (rnd s).L [] (rnd s)
  rw [← rnd_eq i1 (by push_cast; omega)] at q2 o2
  have q3 := rndL_cnt (rnd (rnd s)).L [] (rnd (rnd s)) (fun x hx => (i2.mvs x hx).st3) rfl
  have o3 := rndL_own (rnd (rnd s)).L [] (rnd (rnd s))
  rw [← rnd_eq i2 (by push_cast; omega)] at q3 o3
  have a1 : ∀ y ∈ (rnd s).L, y.st = 2 := by
    intro y hy
    rw [q1.2.2, List.nil_append, List.mem_filterMap] at hy
    obtain ⟨x, _, hx⟩ := hy
    exact (nx_st hx).1
  have a2 : ∀ y ∈ (rnd (rnd s)).L, y.st = 2 ∧ y.dn = 2 := by
    intro y hy
    rw [q2.2.2, List.nil_append, List.mem_filterMap] at hy
    obtain ⟨x, hxm, hx⟩ := hy
    exact ⟨(nx_st hx).1, (nx_st hx).2.2 (a1 x hxm)⟩
  have a3 : (rnd (rnd (rnd s))).L = [] := by
    rw [q3.2.2, List.nil_append, List.filterMap_eq_nil_iff]
    intro y hy
    obtain ⟨e1, e2⟩ := a2 y hy
    unfold nx
    rw [if_neg (by omega), if_neg (by omega)]
  refine ⟨a3, ?_, ?_, ?_⟩
  · have := q3.1; rw [a3] at this; simp only [cN, List.countP_nil] at this
    have := q2.1; have := q1.1
    unfold cN at *; omega
  · have := q3.2.1; rw [a3] at this; simp only [cA, List.countP_nil] at this
    have := q2.2.1; have := q1.2.1
    unfold cA at *; omega
  · intro x hx
    have hm := h.mvs x hx
    rw [o3, ownR_none _ _ (fun y hy => by have := (a2 y hy).1; omega), o2, ownR_none _ _ (fun y hy => by have := a1 y hy; omega), o1,
      ownR_at s.L s.own h.par (fun y hy => ⟨(h.mvs y hy).p0, (h.mvs y hy).pl⟩) x hx]
    rcases hm.st3 with e | e | e
    · rw [if_pos e, if_neg (by omega)]
    · rw [if_neg (by omega), if_neg (by omega)]; exact hm.ow2 e
    · rw [if_neg (by omega), if_pos e]; exact hm.ow (by omega)
end
end Go.Proofs.YtchmhkdnegngdaaGreat
