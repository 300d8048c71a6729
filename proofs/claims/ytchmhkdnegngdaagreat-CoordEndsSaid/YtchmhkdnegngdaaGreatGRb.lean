/- pack.In.Byte; the reader's methods; the reader as a walker. -/
import Derived.Test.YtchmhkdnegngdaaGreatGRg
import Derived.Test.YtchmhkdnegngdaaGreatGWw
import Derived.Deep.DrawnRows
set_option linter.unusedVariables false
set_option linter.unusedSimpArgs false
namespace Go.Proofs.YtchmhkdnegngdaaGreat
open Go.RowKit

section
set_option maxRecDepth 100000 in
theorem byte1_calls (ib pb nb : Nat) (S : ByteArray) (pre g : List UInt8) (b : UInt8) (x : Int) (w : World) (h : InIs w ib S pre (b :: g)) (hS : S.size ≤ 100000)
    (h1 : Blk w pb [.pointer (some ⟨ib, 0, none⟩)] 131) (h3 : Blk w nb [u8 x] 5) (n1 : pb ≠ ib) (n3 : nb ≠ ib) (n13 : pb ≠ nb) :
    Calls Tryz.prog 157 #[.pointer (some ⟨pb, 0, none⟩), .pointer (some ⟨nb, 0, none⟩)] w (fun e w' => e = .returned (i64 0) ∧ InIs w' ib S (pre ++ [b]) g ∧ Blk w' nb [u8 b.toNat] 5 ∧ Mod [ib, nb] w w') := by
  obtain ⟨a1, b1⟩ := h1.read
  obtain ⟨a3, b3⟩ := h3.read
  obtain ⟨c0, f0⟩ := h.1.read
  have hz := h.size
  simp only [List.length_cons] at hz
  obtain ⟨A, hA⟩ : ∃ A, pre.length = A := ⟨_, rfl⟩
  rw [hA] at hz c0
  have q1 : (A : Int) < S.size := by omega
  have q2 : ¬ (A : Int) = S.size := by omega
  have q2d : decide ((A : Int) = S.size) = false := by simp; omega
  have hAs : A < S.size := by omega
  have hSI : S[A] = b := at_mid (pre := pre) (l := g) (rest := []) (by rw [h.2]; simp) hA hAs
  have hb : (S[A]).toNat = b.toNat := by rw [hSI]
  have nbi : ¬ nb = ib := n3
  have nib : ¬ ib = nb := fun e => n3 e.symm
  have HH := Lib.hid h
  have H3 := Lib.hid h3
  have HA := Lib.hid hA
  clear h h1 h3 hz hA hSI
  go_enter Tryz.func157, Tryz.ntmps157
  go_wp2_with fail
  go_quiet (fail)
  go_wp2_with fail
  go_region
  all_goals (go_wp2_with fail)
  all_goals
  go_ret
  refine ⟨rfl, ⟨?_, ?_⟩, ?_, ?_⟩
  · have hb := ((HH.out.1.set_other ⟨nb, 0, none⟩ (u8 b.toNat) nib).set 1 (i64 ((A : Int) + 1)))
    have e : ((pre ++ [b]).length : Int) = (A : Int) + 1 := by rw [List.length_append, HA.out]; rfl
    rw [e]
    exact hb
  · rw [HH.out.2, List.append_assoc]; rfl
  · exact ((H3.out.set 0 (u8 b.toNat)).set_other ⟨ib, 1, none⟩ (i64 ((A : Int) + 1)) n3)
  · with_reducible refine Mod.setCell (Mod.setCell ?_ (by simp) _) (by simp) _
    repeat (first | (with_reducible exact Mod.refl _ _) | (with_reducible refine Mod.drew ?_) | (with_reducible refine Mod.drewN ?_ _))

set_option maxRecDepth 100000 in
theorem try_byte (ib pb nb : Nat) (S : ByteArray) (pre g : List UInt8) (b : UInt8) (x : Int) (w : World) (h : InIs w ib S pre (b :: g)) (hS : S.size ≤ 100000)
    (h1 : Blk w pb [.pointer (some ⟨ib, 0, none⟩)] 131) (h3 : Blk w nb [u8 x] 5) (n1 : pb ≠ ib) (n3 : nb ≠ ib) (n13 : pb ≠ nb) :
    Calls Tryz.prog 156 #[.pointer (some ⟨ib, 0, none⟩), .func (.func 157) #[] #[.pointer (some ⟨pb, 0, none⟩), .pointer (some ⟨nb, 0, none⟩)]] w (fun e w' => e = .returned (.tuple #[]) ∧ InIs w' ib S (pre ++ [b]) g ∧ Blk w' nb [u8 b.toNat] 5 ∧ Mod [ib, nb] w w') := by
  obtain ⟨a1, b1⟩ := h.1.read
  have R := byte1_calls ib pb nb S pre g b x w h hS h1 h3 n1 n3 n13
  clear h h1 h3
  go_enter Tryz.func156, Tryz.ntmps156
  go_wp2_with fail
  refine R.mono ?_
  rintro e w1 ⟨rfl, hI, hB, hM⟩
  have HI := Lib.hid hI
  have HM := Lib.hid hM
  have HB := Lib.hid hB
  clear hI hM hB R a1 b1
  go_wp2_with fail
  go_end0
  exact ⟨rfl, HI.out, HB.out, HM.out⟩

set_option maxRecDepth 100000 in
theorem Byte_calls (ib : Nat) (S : ByteArray) (pre g : List UInt8) (b : UInt8) (w : World) (h : InIs w ib S pre (b :: g)) (hS : S.size ≤ 100000) :
    Calls Tryz.prog 151 #[.pointer (some ⟨ib, 0, none⟩)] w (fun e w' => e = .returned (u8 b.toNat) ∧ InIs w' ib S (pre ++ [b]) g ∧ Mod [ib] w w') := by
  have hlt := h.1.lt
  have e0 : Ext w ((w.alloc (.cells #[.pointer (some ⟨ib, 0, none⟩)] 131)).alloc (.cells #[u8 0] 5)) := by (refine Mod.to_ext (S := []) ?_ (by simp); repeat (first | (with_reducible exact Mod.refl _ _) | (with_reducible assumption) | (with_reducible refine Mod.alloc ?_ _) | (with_reducible refine Mod.drew ?_) | (with_reducible refine Mod.drewN ?_ _)))
  have h1 : Blk ((w.alloc (.cells #[.pointer (some ⟨ib, 0, none⟩)] 131)).alloc (.cells #[u8 0] 5)) w.heap.size [.pointer (some ⟨ib, 0, none⟩)] 131 := (Blk.new w [.pointer (some ⟨ib, 0, none⟩)] 131).old _
  have h3 : Blk ((w.alloc (.cells #[.pointer (some ⟨ib, 0, none⟩)] 131)).alloc (.cells #[u8 0] 5)) (w.heap.size + 1) [u8 0] 5 := Blk.at _ [u8 0] 5 _ (by simp)
  have R := try_byte ib w.heap.size (w.heap.size + 1) S pre g b 0 _ ⟨h.1.ext e0, h.2⟩ hS h1 h3 (by omega) (by omega) (by omega)
  clear h1 h3
  go_enter Tryz.func151, Tryz.ntmps151
  go_wp2_with fail
  refine R.mono ?_
  rintro e w1 ⟨rfl, hI, hB, hM⟩
  obtain ⟨a1, b1⟩ := hB.read
  have HI := Lib.hid hI
  have HM := Lib.hid hM
  have HB := Lib.hid hB
  clear hI hM hB R
  go_wp2_with fail
  refine bodyPost_ret (v := u8 b.toNat) (by simp [results, Tryz.results151, go_sem, a1]) rfl ?_
  refine ⟨rfl, ⟨HI.out.1.set_other _ _ (by simp; omega), HI.out.2⟩, ?_⟩
  have m0 : Mod [ib] w w1 := (Mod.of_ext e0).step HM.out (by simp)
  exact m0.setCell (by right; simp) _

/-- a reader in memory: its own block, its text's block -/
structure RIs (w : World) (rb ib : Nat) (S : ByteArray) (pre g : List UInt8) : Prop where
  blk : Blk w rb [.pointer (some ⟨ib, 0, none⟩)] 134
  inn : InIs w ib S pre g
  ne : rb ≠ ib

theorem ask_calls (rb ib : Nat) (S : ByteArray) (pre g : List UInt8) (w : World) (h : RIs w rb ib S pre g) :
    Calls Tryz.prog 144 #[.pointer (some ⟨rb, 0, none⟩)] w (fun e w' => e = .returned (.tuple #[]) ∧ w = w') := by
  obtain ⟨a1, b1⟩ := h.blk.read
  go_enter Tryz.func144, Tryz.ntmps144
  go_wp2_with fail
  refine (fault_calls ib S pre g w h.inn).mono ?_
  rintro e w1 ⟨rfl, rfl⟩
  go_wp2_with fail
  first | go_end0 | refine bodyPost_ret (results_none rfl _ _ _) rfl ?_
  exact ⟨rfl, rfl⟩

set_option maxRecDepth 100000 in
theorem rnum_calls (rb ib cb cj : Nat) (S : ByteArray) (pre g : List UInt8) (n : Nat) (cells : List Value) (t : TypeId) (x : Int) (w : World) (h : RIs w rb ib S pre (vb n ++ g)) (hn : n < 2147483648) (hS : S.size ≤ 100000)
    (hc : Blk w cb cells t) (hj : cells[cj]? = some (i64 x)) (n1 : cb ≠ rb) (n2 : cb ≠ ib) :
    Calls Tryz.prog 148 #[.pointer (some ⟨rb, 0, none⟩), .pointer (some ⟨cb, cj, none⟩)] w (fun e w' => e = .returned (.tuple #[]) ∧ RIs w' rb ib S (pre ++ vb n) g ∧ Blk w' cb (cells.set cj (i64 n)) t ∧ Mod [cb, ib] w w') := by
  obtain ⟨a1, b1⟩ := h.blk.read
  have R := Most_calls ib S pre g n 2147483647 w h.inn hn hS (by omega) (by omega)
  have HH := Lib.hid h
  have HC := Lib.hid hc
  clear h hc
  go_enter Tryz.func148, Tryz.ntmps148
  go_wp2_with fail
  refine R.mono ?_
  rintro e w1 ⟨rfl, hI, hM⟩
  have hC1 := HC.out.mod hM (by simpa using n2)
  have hR1 := HH.out.blk.mod hM (by simpa using HH.out.ne)
  obtain ⟨c1, d1⟩ := hC1.read
  have cj1 := c1 cj
  rw [hj] at cj1
  have HI := Lib.hid hI
  have HM := Lib.hid hM
  have HC1 := Lib.hid hC1
  have HR1 := Lib.hid hR1
  have Hj := Lib.hid hj
  clear hI hM hC1 hR1 R c1 a1 b1 hj
  go_wp2_with fail
  have k1 : RIs (w1.setCell ⟨cb, cj, none⟩ (i64 n)) rb ib S (pre ++ vb n) g := ⟨HR1.out.set_other _ _ (fun e => n1 e.symm), ⟨HI.out.1.set_other _ _ (fun e => n2 e.symm), HI.out.2⟩, HH.out.ne⟩
  refine (ask_calls rb ib S _ g _ k1).mono ?_
  rintro e w2 ⟨rfl, rfl⟩
  go_wp2_with fail
  first | go_end0 | refine bodyPost_ret (results_none rfl _ _ _) rfl ?_
  refine ⟨rfl, k1, HC1.out.set cj _, ?_⟩
  have m1 : Mod [cb, ib] w w1 := HM.out.mono (by simp)
  exact m1.setCell (by simp) _

set_option maxRecDepth 100000 in
theorem rbyte_calls (rb ib cb cj : Nat) (S : ByteArray) (pre g : List UInt8) (b : UInt8) (cells : List Value) (t : TypeId) (x : Int) (w : World) (h : RIs w rb ib S pre (b :: g)) (hS : S.size ≤ 100000)
    (hc : Blk w cb cells t) (hj : cells[cj]? = some (u8 x)) (n1 : cb ≠ rb) (n2 : cb ≠ ib) :
    Calls Tryz.prog 145 #[.pointer (some ⟨rb, 0, none⟩), .pointer (some ⟨cb, cj, none⟩)] w (fun e w' => e = .returned (.tuple #[]) ∧ RIs w' rb ib S (pre ++ [b]) g ∧ Blk w' cb (cells.set cj (u8 b.toNat)) t ∧ Mod [cb, ib] w w') := by
  obtain ⟨a1, b1⟩ := h.blk.read
  have R := Byte_calls ib S pre g b w h.inn hS
  have HH := Lib.hid h
  have HC := Lib.hid hc
  clear h hc
  go_enter Tryz.func145, Tryz.ntmps145
  go_wp2_with fail
  refine R.mono ?_
  rintro e w1 ⟨rfl, hI, hM⟩
  have hC1 := HC.out.mod hM (by simpa using n2)
  have hR1 := HH.out.blk.mod hM (by simpa using HH.out.ne)
  obtain ⟨c1, d1⟩ := hC1.read
  have cj1 := c1 cj
  rw [hj] at cj1
  have HI := Lib.hid hI
  have HM := Lib.hid hM
  have HC1 := Lib.hid hC1
  have HR1 := Lib.hid hR1
  have Hj := Lib.hid hj
  clear hI hM hC1 hR1 R c1 a1 b1 hj
  go_wp2_with fail
  have k1 : RIs (w1.setCell ⟨cb, cj, none⟩ (u8 b.toNat)) rb ib S (pre ++ [b]) g := ⟨HR1.out.set_other _ _ (fun e => n1 e.symm), ⟨HI.out.1.set_other _ _ (fun e => n2 e.symm), HI.out.2⟩, HH.out.ne⟩
  refine (ask_calls rb ib S _ g _ k1).mono ?_
  rintro e w2 ⟨rfl, rfl⟩
  go_wp2_with fail
  first | go_end0 | refine bodyPost_ret (results_none rfl _ _ _) rfl ?_
  refine ⟨rfl, k1, HC1.out.set cj _, ?_⟩
  have m1 : Mod [cb, ib] w w1 := HM.out.mono (by simp)
  exact m1.setCell (by simp) _

set_option maxRecDepth 100000 in
theorem rcount_calls (rb ib : Nat) (S : ByteArray) (pre g : List UInt8) (n : Nat) (x most : Int) (w : World) (h : RIs w rb ib S pre (vb n ++ g)) (hn : n < 2147483648) (hS : S.size ≤ 100000) (hm : (n : Int) ≤ most) (hm2 : most < 2147483648) :
    Calls Tryz.prog 146 #[.pointer (some ⟨rb, 0, none⟩), i64 x, i64 most] w (fun e w' => e = .returned (i64 n) ∧ RIs w' rb ib S (pre ++ vb n) g ∧ Mod [ib] w w') := by
  obtain ⟨a1, b1⟩ := h.blk.read
  have R := Most_calls ib S pre g n most w h.inn hn hS hm hm2
  have HH := Lib.hid h
  clear h
  go_enter Tryz.func146, Tryz.ntmps146
  go_wp2_with fail
  refine R.mono ?_
  rintro e w1 ⟨rfl, hI, hM⟩
  have hR1 := HH.out.blk.mod hM (by simpa using HH.out.ne)
  have HM := Lib.hid hM
  have k1 : RIs w1 rb ib S (pre ++ vb n) g := ⟨hR1, hI, HH.out.ne⟩
  clear hI hM hR1 R a1 b1
  go_wp2_with fail
  refine (ask_calls rb ib S _ g _ k1).mono ?_
  rintro e w2 ⟨rfl, rfl⟩
  go_wp2_with fail
  go_ret
  exact ⟨rfl, k1, HM.out⟩

/-- the reader's state: what is left -/
def StR (rb ib : Nat) (S : ByteArray) (w : World) (own : List Nat) (g : List UInt8) : Prop := (∃ pre, RIs w rb ib S pre g) ∧ own = [rb, ib]

/-- the reader -/
def KR (rb ib : Nat) (S : ByteArray) (hS : S.size ≤ 100000) : Wk where
  T := 130
  ob := rb
  fnum := 148
  fbyte := 145
  fcount := 146
  St := StR rb ib S
  Num g _ g' x' := ∃ n : Nat, x' = n ∧ n ≤ 2147483647 ∧ g = vb n ++ g'
  Byt g _ g' x' := ∃ b : UInt8, x' = b.toNat ∧ g = b :: g'
  Cnt g _ most g' x' := ∃ n : Nat, x' = n ∧ (n : Int) ≤ most ∧ most ≤ 2147483647 ∧ g = vb n ++ g'
  which := .inr ⟨rfl, rfl, rfl⟩
  st_mod := by
    rintro T w w' own g ⟨⟨pre, h⟩, rfl⟩ m hs
    exact ⟨⟨pre, h.blk.mod m (hs _ (by simp)), ⟨h.inn.1.mod m (hs _ (by simp)), h.inn.2⟩, h.ne⟩, rfl⟩
  st_lt := by
    rintro w own g ⟨⟨pre, h⟩, rfl⟩ k hk
    simp at hk
    rcases hk with e | e
    · rw [e]; exact h.blk.lt
    · rw [e]; exact h.inn.1.lt
  nilNum := fun w => nil_num _ (.inr rfl) _ w
  nilByte := fun w => nil_byte _ (.inr rfl) _ w
  nilCount := fun w => nil_count _ (.inr rfl) _ w
  metNum := fun w => met_num_r _ w
  metByte := fun w => met_byte_r _ w
  metCount := fun w => met_count_r _ w
  num_calls := by
    rintro w own g g' x x' pb pj cells t' ⟨⟨pre, h⟩, rfl⟩ ⟨n, rfl, hn, rfl⟩ hb hc hne
    simp at hne
    refine (rnum_calls rb ib pb pj S pre g' n cells t' x w h (by omega) hS hb hc hne.1 hne.2).mono ?_
    rintro e w' ⟨rfl, hR, hB, hM⟩
    exact ⟨rfl, _, ⟨⟨_, hR⟩, rfl⟩, hB, hM.mono (by intro k hk; left; simp at hk ⊢; omega), fun k hk => .inl hk⟩
  byte_calls := by
    rintro w own g g' x x' pb pj cells t' ⟨⟨pre, h⟩, rfl⟩ ⟨b, rfl, rfl⟩ hb hc hne
    simp at hne
    refine (rbyte_calls rb ib pb pj S pre g' b cells t' x w h hS hb hc hne.1 hne.2).mono ?_
    rintro e w' ⟨rfl, hR, hB, hM⟩
    exact ⟨rfl, _, ⟨⟨_, hR⟩, rfl⟩, hB, hM.mono (by intro k hk; left; simp at hk ⊢; omega), fun k hk => .inl hk⟩
  count_calls := by
    rintro w own g g' n most x' ⟨⟨pre, h⟩, rfl⟩ ⟨m, rfl, hm, hm2, rfl⟩
    refine (rcount_calls rb ib S pre g' m n most w h (by omega) hS hm (by omega)).mono ?_
    rintro e w' ⟨rfl, hR, hM⟩
    exact ⟨rfl, _, ⟨⟨_, hR⟩, rfl⟩, hM.mono (by intro k hk; left; simp at hk ⊢; omega), fun k hk => .inl hk⟩
end
end Go.Proofs.YtchmhkdnegngdaaGreat
