/- msg.walk over a coordinator's messages, by the reader. -/
import Derived.Test.YtchmhkdnegngdaaGreatWx
set_option linter.unusedVariables false
set_option linter.unusedSimpArgs false
namespace Go.Proofs.YtchmhkdnegngdaaGreat
open Go.RowKit


/-- the message, read -/
def ReadM (rb ib : Nat) (S : ByteArray) (mb : Nat) (w : World) (own : List Nat) (rest : List UInt8) (m : Ms) (w' : World) : Prop :=
  ∃ own' v, StR rb ib S w' own' rest ∧ Blk w' mb (m.cells v) 40 ∧ Sl w' v (ints m.owners) ∧ (∀ q, v.ownBlock = some q → w.heap.size ≤ q) ∧ Mod (mb :: own) w w' ∧ ∀ k ∈ own', k ∈ own ∨ w.heap.size ≤ k

/-- the table's part, read -/
def TabR (rb ib : Nat) (S : ByteArray) (mb : Nat) (w : World) (own : List Nat) (rest : List UInt8) (cells : Value → List Value) (ys : List Int) (w' : World) : Prop :=
  ∃ own' v, StR rb ib S w' own' rest ∧ Blk w' mb (cells v) 40 ∧ Sl w' v ys ∧ (∀ q, v.ownBlock = some q → w.heap.size ≤ q) ∧ Mod (mb :: own) w w' ∧ ∀ k ∈ own', k ∈ own ∨ w.heap.size ≤ k

theorem drop_flat {xs : List Nat} {i : Nat} (hi : i < xs.length) : (xs.drop i).flatMap vb = vb (xs[i]) ++ (xs.drop (i + 1)).flatMap vb := by
  rw [List.drop_eq_getElem_cons hi]; rfl

theorem tab_r (rb ib : Nat) (S : ByteArray) (hSz : S.size ≤ 100000) (mb : Nat) (k mv part dst : Int) (ep n : Nat) (xs : List Nat) (s : Value) (w : World) (own : List Nat) (rest : List UInt8)
    (hS : StR rb ib S w own (tenc ep n xs ++ rest)) (hb : Blk w mb (mcells k mv part dst 0 0 (.slice none 0 0) s) 40) (hne : mb ∉ own)
    (h0 : xs ≠ []) (hl : xs.length ≤ 64) (hxs : ∀ x ∈ xs, small x) (hep : small ep) (hn : small n) :
    Calls Tryz.prog 94 #[.iface 130 (.pointer (some ⟨rb, 0, none⟩)), .pointer (some ⟨mb, 17, none⟩)] w
      (fun e w' => e = .returned (.tuple #[]) ∧ TabR rb ib S mb w own rest (fun v => mcells k mv part dst ep n v s) (ints xs) w') := by
  have hpos : 0 < xs.length := List.length_pos_iff.2 h0
  refine (table1 (KR rb ib S hSz) mb k mv part dst 0 0 _ s w own (tenc ep n xs ++ rest) (vb n ++ (vb xs.length ++ xs.flatMap vb) ++ rest) (vb xs.length ++ xs.flatMap vb ++ rest) ep n hS hb hne ⟨ep, rfl, hep, by simp [tenc]⟩ ⟨n, rfl, hn, by simp⟩
    (fun e w' => e = .returned (.tuple #[]) ∧ TabR rb ib S mb w own rest (fun v => mcells k mv part dst ep n v s) (ints xs) w') ?_)
  rintro w2 ⟨own2, hS2, hB2, hM2, hO2⟩
  have R := numbers_r (KR rb ib S hSz) rfl rfl mb k mv part dst ep n s (ints xs) w2 own2 (vb xs.length ++ xs.flatMap vb ++ rest) (fun i => (xs.drop i).flatMap vb ++ rest) hS2
    hB2 (not_own hb.lt hne hO2) (by rw [ints_len]; exact hl)
    ⟨xs.length, by rw [ints_len], by omega, by omega, by simp⟩
    (by
      intro i hi
      rw [ints_len] at hi
      rw [ints_get hi]
      exact ⟨xs[i], rfl, hxs _ (List.getElem_mem hi), by rw [drop_flat hi]; simp⟩)
  refine R.mono ?_
  rintro e w3 ⟨rfl, own3, v, hS3, hB3, hv, _, hM3, hO3⟩
  have hS3 : StR rb ib S w3 own3 rest := by
    have e : (xs.drop (ints xs).length).flatMap vb ++ rest = rest := by simp [ints_len]
    rw [e] at hS3; exact hS3
  obtain ⟨q, cap, rfl, hq0, _, hI, _⟩ := ownsRow_IA hv (by rw [ints_len]; exact hpos)
  exact ⟨rfl, rfl, own3, _, hS3, hB3, .inr ⟨by intro e; have := congrArg List.length e; rw [ints_len] at this; simp at this; exact h0 this, q, 0, cap, rfl, hI⟩, (by intro q' hq'; have e : q = q' := (by simpa [Value.ownBlock] using hq'); have := hM2.size; omega), mod_step hM2 hM3 hO2, own_step hM2.size hO2 hO3⟩

theorem walk_r (rb ib : Nat) (S : ByteArray) (hSz : S.size ≤ 100000) (mb : Nat) (m : Ms) (w : World) (own : List Nat) (rest : List UInt8) (hS : StR rb ib S w own (m.enc ++ rest)) (hb : Blk w mb (mcells 0 0 0 0 0 0 (.slice none 0 0) (.slice none 0 0)) 40) (hne : mb ∉ own) (hm : m.ok) :
    Calls Tryz.prog 73 #[.iface 130 (.pointer (some ⟨rb, 0, none⟩)), .pointer (some ⟨mb, 0, none⟩)] w
      (fun e w' => e = .returned (.tuple #[]) ∧ ReadM rb ib S mb w own rest m w') := by
  cases m with
  | prep mv part dst =>
    obtain ⟨h1, h2, h3⟩ := hm
    refine (walk_prepare (KR rb ib S hSz) mb 0 0 0 0 0 0 mv part dst (.slice none 0 0) (.slice none 0 0) w own _ (vb mv ++ (vb part ++ vb dst) ++ rest) (vb part ++ vb dst ++ rest) (vb dst ++ rest) rest hS hb hne
      ⟨UInt8.ofNat 4, rfl, rfl⟩ ⟨mv, rfl, h1, by simp⟩ ⟨part, rfl, h2, by simp⟩ ⟨dst, rfl, h3, by simp⟩).mono ?_
    rintro e w1 ⟨rfl, own1, hS1, hB1, hM1, hO1⟩
    exact ⟨rfl, own1, _, hS1, hB1, .inl ⟨rfl, rfl⟩, by simp [Value.ownBlock], hM1, hO1⟩
  | abort mv part =>
    obtain ⟨h1, h2⟩ := hm
    refine (walk_abort (KR rb ib S hSz) mb 0 0 0 0 0 0 mv part (.slice none 0 0) (.slice none 0 0) w own _ (vb mv ++ vb part ++ rest) (vb part ++ rest) rest hS hb hne
      ⟨UInt8.ofNat 12, rfl, rfl⟩ ⟨mv, rfl, h1, by simp⟩ ⟨part, rfl, h2, by simp⟩).mono ?_
    rintro e w1 ⟨rfl, own1, hS1, hB1, hM1, hO1⟩
    exact ⟨rfl, own1, _, hS1, hB1, .inl ⟨rfl, rfl⟩, by simp [Value.ownBlock], hM1, hO1⟩
  | commit mv part ep n xs =>
    obtain ⟨h1, h2, h3, h4, h5, h6, h7⟩ := hm
    refine (walk_commit (KR rb ib S hSz) mb 0 0 0 0 0 0 mv part (.slice none 0 0) (.slice none 0 0) w own _ (vb mv ++ (vb part ++ tenc ep n xs) ++ rest) (vb part ++ tenc ep n xs ++ rest) (tenc ep n xs ++ rest) hS hb hne
      ⟨UInt8.ofNat 11, rfl, rfl⟩ ⟨mv, rfl, h1, by simp⟩ ⟨part, rfl, h2, by simp⟩ _ ?_)
    rintro w1 ⟨own1, hS1, hB1, hM1, hO1⟩
    refine (tab_r rb ib S hSz mb 11 mv part 0 ep n xs _ w1 own1 rest hS1 hB1 (not_own hb.lt hne hO1) h5 h6 h7 h3 h4).mono ?_
    rintro e w2 ⟨rfl, own2, v, hS2, hB2, hv, hq, hM2, hO2⟩
    exact ⟨rfl, rfl, own2, v, hS2, hB2, hv, fun q h => Nat.le_trans hM1.size (hq q h), mod_step hM1 hM2 hO1, own_step hM1.size hO1 hO2⟩
  | table ep n xs =>
    obtain ⟨h3, h4, h5, h6, h7⟩ := hm
    refine (walk_table (KR rb ib S hSz) mb 0 0 0 0 0 0 (.slice none 0 0) (.slice none 0 0) w own _ (tenc ep n xs ++ rest) hS hb hne
      ⟨UInt8.ofNat 14, rfl, rfl⟩ _ ?_)
    rintro w1 ⟨own1, hS1, hB1, hM1, hO1⟩
    refine (tab_r rb ib S hSz mb 14 0 0 0 ep n xs _ w1 own1 rest hS1 hB1 (not_own hb.lt hne hO1) h5 h6 h7 h3 h4).mono ?_
    rintro e w2 ⟨rfl, own2, v, hS2, hB2, hv, hq, hM2, hO2⟩
    exact ⟨rfl, rfl, own2, v, hS2, hB2, hv, fun q h => Nat.le_trans hM1.size (hq q h), mod_step hM1 hM2 hO1, own_step hM1.size hO1 hO2⟩
end Go.Proofs.YtchmhkdnegngdaaGreat
