/- msg.walk over a coordinator's messages, by the writer and by the reader. msg.walk over a coordinator's messages, by the reader. -/
import Derived.Test.YtchmhkdnegngdaaGreatGSf
set_option linter.unusedVariables false
set_option linter.unusedSimpArgs false
namespace Go.Proofs.YtchmhkdnegngdaaGreat
open Go.RowKit

section
/-- the messages that a coordinator tells -/
inductive Ms where
  | prep (mv part dst : Nat)
  | commit (mv part ep n : Nat) (xs : List Nat)
  | abort (mv part : Nat)
  | table (ep n : Nat) (xs : List Nat)

def ints (xs : List Nat) : List Int := xs.map Int.ofNat

def tenc (ep n : Nat) (xs : List Nat) : List UInt8 := vb ep ++ (vb n ++ (vb xs.length ++ xs.flatMap vb))

def Ms.enc : Ms → List UInt8
  | .prep mv part dst => UInt8.ofNat 4 :: (vb mv ++ (vb part ++ vb dst))
  | .commit mv part ep n xs => UInt8.ofNat 11 :: (vb mv ++ (vb part ++ tenc ep n xs))
  | .abort mv part => UInt8.ofNat 12 :: (vb mv ++ vb part)
  | .table ep n xs => UInt8.ofNat 14 :: tenc ep n xs

def Ms.cells (m : Ms) (o : Value) : List Value :=
  match m with
  | .prep mv part dst => mcells 4 mv part dst 0 0 o (.slice none 0 0)
  | .commit mv part ep n _ => mcells 11 mv part 0 ep n o (.slice none 0 0)
  | .abort mv part => mcells 12 mv part 0 0 0 o (.slice none 0 0)
  | .table ep n _ => mcells 14 0 0 0 ep n o (.slice none 0 0)

def Ms.owners : Ms → List Nat
  | .commit _ _ _ _ xs => xs
  | .table _ _ xs => xs
  | _ => []

/-- within what a writer takes -/
def small (n : Nat) : Prop := n ≤ 2147483647
def Ms.ok : Ms → Prop
  | .prep mv part dst => small mv ∧ small part ∧ small dst
  | .commit mv part ep n xs => small mv ∧ small part ∧ small ep ∧ small n ∧ xs ≠ [] ∧ xs.length ≤ 64 ∧ ∀ x ∈ xs, small x
  | .abort mv part => small mv ∧ small part
  | .table ep n xs => small ep ∧ small n ∧ xs ≠ [] ∧ xs.length ≤ 64 ∧ ∀ x ∈ xs, small x

/-- a slice of ints: none, or cells that lie in memory -/
def Sl (w : World) (o : Value) (xs : List Int) : Prop :=
  (xs = [] ∧ o = .slice none 0 0) ∨ (xs ≠ [] ∧ ∃ b off cap, o = .slice (some ⟨b, off, none⟩) xs.length cap ∧ IA w b off xs)

theorem vb_len5 {x : Nat} (h : small x) : (vb x).length ≤ 5 := vb_length (k := 4) (by unfold small at h; omega)

theorem flat_len {xs : List Nat} (h : ∀ x ∈ xs, small x) : (xs.flatMap vb).length ≤ 5 * xs.length := by
  induction xs with
  | nil => simp
  | cons x xs ih =>
    have h1 := vb_len5 (h x (by simp))
    have h2 := ih (fun y hy => h y (by simp [hy]))
    simp only [List.flatMap_cons, List.length_append, List.length_cons]; omega

theorem take_flat {xs : List Nat} {i : Nat} (hi : i < xs.length) : (xs.take (i + 1)).flatMap vb = (xs.take i).flatMap vb ++ vb (xs[i]) := by
  rw [List.take_add_one, List.flatMap_append]
  simp [hi]

theorem ints_len (xs : List Nat) : (ints xs).length = xs.length := by simp [ints]
theorem ints_get {xs : List Nat} {i : Nat} (hi : i < xs.length) : (ints xs).getD i 0 = (xs[i] : Int) := by simp [ints, hi]

/-- the table's part, written -/
def TabW (ob : Nat) (t : TypeId) (mb : Nat) (w : World) (own : List Nat) (g' : List UInt8) (cells : Value → List Value) (w' : World) : Prop :=
  ∃ own' v, StW ob t w' own' g' ∧ Blk w' mb (cells v) 40 ∧ Mod (mb :: own) w w' ∧ ∀ k ∈ own', k ∈ own ∨ w.heap.size ≤ k

theorem tab_w (ob : Nat) (t : TypeId) (mb sb so sc : Nat) (k mv part dst : Int) (ep n : Nat) (xs : List Nat) (s : Value) (w : World) (own : List Nat) (g : List UInt8)
    (hS : StW ob t w own g) (hb : Blk w mb (mcells k mv part dst ep n (.slice (some ⟨sb, so, none⟩) xs.length sc) s) 40) (hne : mb ∉ own) (hx : IA w sb so (ints xs)) (hsb : sb ∉ own) (hsm : sb ≠ mb)
    (h0 : xs ≠ []) (hl : xs.length ≤ 64) (hxs : ∀ x ∈ xs, small x) (hep : small ep) (hn : small n) (hg : g.length ≤ 1000) :
    Calls Tryz.prog 94 #[.iface 193 (.pointer (some ⟨ob, 0, none⟩)), .pointer (some ⟨mb, 17, none⟩)] w
      (fun e w' => e = .returned (.tuple #[]) ∧ TabW ob t mb w own (g ++ tenc ep n xs) (fun v => mcells k mv part dst ep n v s) w') := by
  have l1 := vb_len5 hep
  have l2 := vb_len5 hn
  have hpos : 0 < xs.length := List.length_pos_iff.2 h0
  have l3 := vb_len5 (x := xs.length) (by unfold small; omega)
  refine (table1 (KW ob t) mb k mv part dst ep n _ s w own g (g ++ vb ep) (g ++ vb ep ++ vb n) ep n hS hb hne ⟨ep, rfl, hep, rfl, by omega, rfl⟩ ⟨n, rfl, hn, rfl, by simp; omega, rfl⟩
    (fun e w' => e = .returned (.tuple #[]) ∧ TabW ob t mb w own (g ++ tenc ep n xs) (fun v => mcells k mv part dst ep n v s) w') ?_)
  rintro w2 ⟨own2, hS2, hB2, hM2, hO2⟩
  have hsbl : sb < w.heap.size := World.block_lt_of_cell? w _ (hx.at0 (i := 0) (by rw [ints_len]; exact hpos))
  have hx2 : IA w2 sb so (ints xs) := hx.mod hM2 (by simp; exact ⟨hsm, hsb⟩)
  have hlen : ((ints xs).length : Int) = (xs.length : Int) := by rw [ints_len]
  have R := numbers_w (KW ob t) rfl rfl mb sb so sc k mv part dst ep n s (ints xs) (ints xs) w2 own2 (g ++ vb ep ++ vb n) (fun i => g ++ vb ep ++ vb n ++ vb xs.length ++ (xs.take i).flatMap vb) hS2
    (by rw [ints_len]; exact hB2) (not_own hb.lt hne hO2) hx2 (not_own hsbl hsb hO2) hsm (by rw [ints_len]; exact hpos) (by rw [ints_len]; exact hl) rfl
    ⟨xs.length, hlen, by omega, by omega, rfl, by simp; omega, by simp⟩
    (by
      intro i hi
      rw [ints_len] at hi
      have hf := flat_len (xs := xs.take i) (fun x hx => hxs x (List.mem_of_mem_take hx))
      rw [List.length_take] at hf
      rw [ints_get hi]
      refine ⟨xs[i], rfl, hxs _ (List.getElem_mem hi), rfl, ?_, ?_⟩
      · simp only [List.length_append]; omega
      · rw [take_flat hi]; simp)
  refine R.mono ?_
  rintro e w3 ⟨rfl, own3, v, hS3, hB3, _, _, hM3, hO3⟩
  refine ⟨rfl, rfl, own3, v, ?_, hB3, mod_step hM2 hM3 hO2, own_step hM2.size hO2 hO3⟩
  have hg3 : g ++ vb ep ++ vb n ++ vb xs.length ++ (xs.take (ints xs).length).flatMap vb = g ++ tenc ep n xs := by
    rw [ints_len, List.take_length]; simp [tenc]
  rw [← hg3]
  exact hS3

/-- the message, written -/
theorem walk_w (ob : Nat) (t : TypeId) (mb : Nat) (m : Ms) (o : Value) (w : World) (own : List Nat) (hS : StW ob t w own []) (hb : Blk w mb (m.cells o) 40) (hne : mb ∉ own) (hm : m.ok)
    (ho : m.owners ≠ [] → ∃ sb so sc, o = .slice (some ⟨sb, so, none⟩) m.owners.length sc ∧ IA w sb so (ints m.owners) ∧ sb ∉ own ∧ sb ≠ mb) :
    Calls Tryz.prog 73 #[.iface 193 (.pointer (some ⟨ob, 0, none⟩)), .pointer (some ⟨mb, 0, none⟩)] w
      (fun e w' => e = .returned (.tuple #[]) ∧ TabW ob t mb w own m.enc m.cells w') := by
  cases m with
  | prep mv part dst =>
    obtain ⟨h1, h2, h3⟩ := hm
    have l1 := vb_len5 h1
    have l2 := vb_len5 h2
    refine (walk_prepare (KW ob t) mb 4 mv part dst 0 0 mv part dst o (.slice none 0 0) w own [] [UInt8.ofNat 4] ([UInt8.ofNat 4] ++ vb mv) ([UInt8.ofNat 4] ++ vb mv ++ vb part) ([UInt8.ofNat 4] ++ vb mv ++ vb part ++ vb dst) hS hb hne
      ⟨4, rfl, by omega, rfl, by simp, rfl⟩ ⟨mv, rfl, h1, rfl, by simp, rfl⟩ ⟨part, rfl, h2, rfl, by simp; omega, rfl⟩ ⟨dst, rfl, h3, rfl, by simp; omega, rfl⟩).mono ?_
    rintro e w1 ⟨rfl, own1, hS1, hB1, hM1, hO1⟩
    refine ⟨rfl, own1, o, ?_, hB1, hM1, hO1⟩
    have e : (Ms.prep mv part dst).enc = [UInt8.ofNat 4] ++ vb mv ++ vb part ++ vb dst := by simp [Ms.enc]
    rw [e]; exact hS1
  | abort mv part =>
    obtain ⟨h1, h2⟩ := hm
    have l1 := vb_len5 h1
    refine (walk_abort (KW ob t) mb 12 mv part 0 0 0 mv part o (.slice none 0 0) w own [] [UInt8.ofNat 12] ([UInt8.ofNat 12] ++ vb mv) ([UInt8.ofNat 12] ++ vb mv ++ vb part) hS hb hne
      ⟨12, rfl, by omega, rfl, by simp, rfl⟩ ⟨mv, rfl, h1, rfl, by simp, rfl⟩ ⟨part, rfl, h2, rfl, by simp; omega, rfl⟩).mono ?_
    rintro e w1 ⟨rfl, own1, hS1, hB1, hM1, hO1⟩
    refine ⟨rfl, own1, o, ?_, hB1, hM1, hO1⟩
    have e : (Ms.abort mv part).enc = [UInt8.ofNat 12] ++ vb mv ++ vb part := by simp [Ms.enc]
    rw [e]; exact hS1
  | commit mv part ep n xs =>
    obtain ⟨h1, h2, h3, h4, h5, h6, h7⟩ := hm
    have l1 := vb_len5 h1
    have l2 := vb_len5 h2
    obtain ⟨sb, so, sc, rfl, hx, hsb, hsm⟩ := ho h5
    refine (walk_commit (KW ob t) mb 11 mv part 0 ep n mv part _ (.slice none 0 0) w own [] [UInt8.ofNat 11] ([UInt8.ofNat 11] ++ vb mv) ([UInt8.ofNat 11] ++ vb mv ++ vb part) hS hb hne
      ⟨11, rfl, by omega, rfl, by simp, rfl⟩ ⟨mv, rfl, h1, rfl, by simp, rfl⟩ ⟨part, rfl, h2, rfl, by simp; omega, rfl⟩ _ ?_)
    rintro w1 ⟨own1, hS1, hB1, hM1, hO1⟩
    have hsbl : sb < w.heap.size := World.block_lt_of_cell? w _ (hx.at0 (i := 0) (by rw [ints_len]; exact List.length_pos_iff.2 h5))
    refine (tab_w ob t mb sb so sc 11 mv part 0 ep n xs _ w1 own1 _ hS1 hB1 (not_own hb.lt hne hO1) (hx.mod hM1 (by simp; exact ⟨hsm, hsb⟩)) (not_own hsbl hsb hO1) hsm h5 h6 h7 h3 h4 (by simp; omega)).mono ?_
    rintro e w2 ⟨rfl, own2, v, hS2, hB2, hM2, hO2⟩
    refine ⟨rfl, rfl, own2, v, ?_, hB2, mod_step hM1 hM2 hO1, own_step hM1.size hO1 hO2⟩
    have e : (Ms.commit mv part ep n xs).enc = [UInt8.ofNat 11] ++ vb mv ++ vb part ++ tenc ep n xs := by simp [Ms.enc]
    rw [e]; exact hS2
  | table ep n xs =>
    obtain ⟨h3, h4, h5, h6, h7⟩ := hm
    obtain ⟨sb, so, sc, rfl, hx, hsb, hsm⟩ := ho h5
    refine (walk_table (KW ob t) mb 14 0 0 0 ep n _ (.slice none 0 0) w own [] [UInt8.ofNat 14] hS hb hne
      ⟨14, rfl, by omega, rfl, by simp, rfl⟩ _ ?_)
    rintro w1 ⟨own1, hS1, hB1, hM1, hO1⟩
    have hsbl : sb < w.heap.size := World.block_lt_of_cell? w _ (hx.at0 (i := 0) (by rw [ints_len]; exact List.length_pos_iff.2 h5))
    refine (tab_w ob t mb sb so sc 14 0 0 0 ep n xs _ w1 own1 _ hS1 hB1 (not_own hb.lt hne hO1) (hx.mod hM1 (by simp; exact ⟨hsm, hsb⟩)) (not_own hsbl hsb hO1) hsm h5 h6 h7 h3 h4 (by simp)).mono ?_
    rintro e w2 ⟨rfl, own2, v, hS2, hB2, hM2, hO2⟩
    refine ⟨rfl, rfl, own2, v, ?_, hB2, mod_step hM1 hM2 hO1, own_step hM1.size hO1 hO2⟩
    have e : (Ms.table ep n xs).enc = [UInt8.ofNat 14] ++ tenc ep n xs := by simp [Ms.enc]
    rw [e]; exact hS2
end

section
/-- the message, read -/
def ReadM (rb ib : Nat) (S : ByteArray) (mb : Nat) (w : World) (own : List Nat) (rest : List UInt8) (m : Ms) (w' : World) : Prop :=
  ∃ own' v, StR rb ib S w' own' rest ∧ Blk w' mb (m.cells v) 40 ∧ Sl w' v (ints m.owners) ∧ (∀ q, v.ownBlock = some q → w.heap.size ≤ q) ∧ Mod (mb :: own) w w' ∧ ∀ k ∈ own', k ∈ own ∨ w.heap.size ≤ k

/-- the table's part, read -/
def TabR (rb ib : Nat) (S : ByteArray) (mb : Nat) (w : World) (own : List Nat) (rest : List UInt8) (cells : Value → List Value) (ys : List Int) (w' : World) : Prop :=
  ∃ own' v, StR rb ib S w' own' rest ∧ Blk w' mb (cells v) 40 ∧ Sl w' v ys ∧ (∀ q, v.ownBlock = some q → w.heap.size ≤ q) ∧ Mod (mb :: own) w w' ∧ ∀ k ∈ own', k ∈ own ∨ w.heap.size ≤ k

theorem drop_flat {xs : List Nat} {i : Nat} (hi : i < xs.length) : (xs.drop i).flatMap vb = vb (xs[i]) ++ (xs.drop (i + 1)).flatMap vb := by
  rw [List.drop_eq_getElem_cons hi]; rfl

theorem tab_r (rb ib : Nat) (S : ByteArray) (hSz : S.size ≤ 100000) (mb : Nat) (k mv part dst : Int) (ep n : Nat) (xs : List Nat) (s : Value) (w : World) (own : List Nat) (rest : List UInt8)
    (hS : StR rb ib S w own (tenc ep n xs ++ rest)) (hb : Blk w mb (mcells k mv part dst 0 0 (.slice none 0 0) s) 40) (hne : mb ∉ own)
    (h0 : xs ≠ []) (hl : xs.length ≤ 64) (hxs : ∀ x ∈ xs, small x) (hep : small ep) (hn : small n) :
    Calls Tryz.prog 94 #[.iface 130 (.pointer (some ⟨rb, 0, none⟩)), .pointer (some ⟨mb, 17, none⟩)] w
      (fun e w' => e = .returned (.tuple #[]) ∧ TabR rb ib S mb w own rest (fun v => mcells k mv part dst ep n v s) (ints xs) w') := by
  have hpos : 0 < xs.length := List.length_pos_iff.2 h0
  refine (table1 (KR rb ib S hSz) mb k mv part dst 0 0 _ s w own (tenc ep n xs ++ rest) (vb n ++ (vb xs.length ++ xs.flatMap vb) ++ rest) (vb xs.length ++ xs.flatMap vb ++ rest) ep n hS hb hne ⟨ep, rfl, hep, by simp [tenc]⟩ ⟨n, rfl, hn, by simp⟩
    (fun e w' => e = .returned (.tuple #[]) ∧ TabR rb ib S mb w own rest (fun v => mcells k mv part dst ep n v s) (ints xs) w') ?_)
  rintro w2 ⟨own2, hS2, hB2, hM2, hO2⟩
  have R := numbers_r (KR rb ib S hSz) rfl rfl mb k mv part dst ep n s (ints xs) w2 own2 (vb xs.length ++ xs.flatMap vb ++ rest) (fun i => (xs.drop i).flatMap vb ++ rest) hS2
    hB2 (not_own hb.lt hne hO2) (by rw [ints_len]; exact hl)
    ⟨xs.length, by rw [ints_len], by omega, by omega, by simp⟩
    (by
      intro i hi
      rw [ints_len] at hi
      rw [ints_get hi]
      exact ⟨xs[i], rfl, hxs _ (List.getElem_mem hi), by rw [drop_flat hi]; simp⟩)
  refine R.mono ?_
  rintro e w3 ⟨rfl, own3, v, hS3, hB3, hv, _, hM3, hO3⟩
  have hS3 : StR rb ib S w3 own3 rest := by
    have e : (xs.drop (ints xs).length).flatMap vb ++ rest = rest := by simp [ints_len]
    rw [e] at hS3; exact hS3
  obtain ⟨q, cap, rfl, hq0, _, hI, _⟩ := ownsRow_IA hv (by rw [ints_len]; exact hpos)
  exact ⟨rfl, rfl, own3, _, hS3, hB3, .inr ⟨by intro e; have := congrArg List.length e; rw [ints_len] at this; simp at this; exact h0 this, q, 0, cap, rfl, hI⟩, (by intro q' hq'; have e : q = q' := (by simpa [Value.ownBlock] using hq'); have := hM2.size; omega), mod_step hM2 hM3 hO2, own_step hM2.size hO2 hO3⟩

theorem walk_r (rb ib : Nat) (S : ByteArray) (hSz : S.size ≤ 100000) (mb : Nat) (m : Ms) (w : World) (own : List Nat) (rest : List UInt8) (hS : StR rb ib S w own (m.enc ++ rest)) (hb : Blk w mb (mcells 0 0 0 0 0 0 (.slice none 0 0) (.slice none 0 0)) 40) (hne : mb ∉ own) (hm : m.ok) :
    Calls Tryz.prog 73 #[.iface 130 (.pointer (some ⟨rb, 0, none⟩)), .pointer (some ⟨mb, 0, none⟩)] w
      (fun e w' => e = .returned (.tuple #[]) ∧ ReadM rb ib S mb w own rest m w') := by
  cases m with
  | prep mv part dst =>
    obtain ⟨h1, h2, h3⟩ := hm
    refine (walk_prepare (KR rb ib S hSz) mb 0 0 0 0 0 0 mv part dst (.slice none 0 0) (.slice none 0 0) w own _ (vb mv ++ (vb part ++ vb dst) ++ rest) (vb part ++ vb dst ++ rest) (vb dst ++ rest) rest hS hb hne
      ⟨UInt8.ofNat 4, rfl, rfl⟩ ⟨mv, rfl, h1, by simp⟩ ⟨part, rfl, h2, by simp⟩ ⟨dst, rfl, h3, by simp⟩).mono ?_
    rintro e w1 ⟨rfl, own1, hS1, hB1, hM1, hO1⟩
    exact ⟨rfl, own1, _, hS1, hB1, .inl ⟨rfl, rfl⟩, by simp [Value.ownBlock], hM1, hO1⟩
  | abort mv part =>
    obtain ⟨h1, h2⟩ := hm
    refine (walk_abort (KR rb ib S hSz) mb 0 0 0 0 0 0 mv part (.slice none 0 0) (.slice none 0 0) w own _ (vb mv ++ vb part ++ rest) (vb part ++ rest) rest hS hb hne
      ⟨UInt8.ofNat 12, rfl, rfl⟩ ⟨mv, rfl, h1, by simp⟩ ⟨part, rfl, h2, by simp⟩).mono ?_
    rintro e w1 ⟨rfl, own1, hS1, hB1, hM1, hO1⟩
    exact ⟨rfl, own1, _, hS1, hB1, .inl ⟨rfl, rfl⟩, by simp [Value.ownBlock], hM1, hO1⟩
  | commit mv part ep n xs =>
    obtain ⟨h1, h2, h3, h4, h5, h6, h7⟩ := hm
    refine (walk_commit (KR rb ib S hSz) mb 0 0 0 0 0 0 mv part (.slice none 0 0) (.slice none 0 0) w own _ (vb mv ++ (vb part ++ tenc ep n xs) ++ rest) (vb part ++ tenc ep n xs ++ rest) (tenc ep n xs ++ rest) hS hb hne
      ⟨UInt8.ofNat 11, rfl, rfl⟩ ⟨mv, rfl, h1, by simp⟩ ⟨part, rfl, h2, by simp⟩ _ ?_)
    rintro w1 ⟨own1, hS1, hB1, hM1, hO1⟩
    refine (tab_r rb ib S hSz mb 11 mv part 0 ep n xs _ w1 own1 rest hS1 hB1 (not_own hb.lt hne hO1) h5 h6 h7 h3 h4).mono ?_
    rintro e w2 ⟨rfl, own2, v, hS2, hB2, hv, hq, hM2, hO2⟩
    exact ⟨rfl, rfl, own2, v, hS2, hB2, hv, fun q h => Nat.le_trans hM1.size (hq q h), mod_step hM1 hM2 hO1, own_step hM1.size hO1 hO2⟩
  | table ep n xs =>
    obtain ⟨h3, h4, h5, h6, h7⟩ := hm
    refine (walk_table (KR rb ib S hSz) mb 0 0 0 0 0 0 (.slice none 0 0) (.slice none 0 0) w own _ (tenc ep n xs ++ rest) hS hb hne
      ⟨UInt8.ofNat 14, rfl, rfl⟩ _ ?_)
    rintro w1 ⟨own1, hS1, hB1, hM1, hO1⟩
    refine (tab_r rb ib S hSz mb 14 0 0 0 ep n xs _ w1 own1 rest hS1 hB1 (not_own hb.lt hne hO1) h5 h6 h7 h3 h4).mono ?_
    rintro e w2 ⟨rfl, own2, v, hS2, hB2, hv, hq, hM2, hO2⟩
    exact ⟨rfl, rfl, own2, v, hS2, hB2, hv, fun q h => Nat.le_trans hM1.size (hq q h), mod_step hM1 hM2 hO1, own_step hM1.size hO1 hO2⟩
end
end Go.Proofs.YtchmhkdnegngdaaGreat
