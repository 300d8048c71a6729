/- pack: getVar. pack.In: number, most, Most; Byte; try; Fault; Left; End. pack.In: most, Most; Byte; try; Fault; Left; End. -/
import Derived.Test.YtchmhkdnegngdaaGreatGWv
import Derived.Deep.DrawnRows
set_option linter.unusedVariables false
set_option linter.unusedSimpArgs false
namespace Go.Proofs.YtchmhkdnegngdaaGreat
open Go.RowKit

section
theorem wrap_u64 {a : Nat} (ha : a < 18446744073709551616) : IntKind.u64.wrap (a : Int) = a := by
  have h : (a : Int) % (2 ^ 64 : Int) = a := by omega
  simp [IntKind.wrap, IntKind.signed, IntKind.bits]
  omega

theorem bits_or_u64 (a b : Nat) (ha : a < 18446744073709551616) (hb : b < 18446744073709551616) : bits BinOp.or IntKind.u64 a b = ((a ||| b : Nat) : Int) := by
  have h1 : (a ||| b) < 2 ^ 64 := Nat.or_lt_two_pow ha hb
  unfold bits
  have e : (BitVec.ofInt IntKind.u64.bits (a : Int) ||| BitVec.ofInt IntKind.u64.bits (b : Int)).toNat = a ||| b := by
    show (BitVec.ofInt 64 (a : Int) ||| BitVec.ofInt 64 (b : Int)).toNat = a ||| b
    rw [BitVec.toNat_or, BitVec.ofInt_natCast, BitVec.ofInt_natCast, BitVec.toNat_ofNat, BitVec.toNat_ofNat, Nat.mod_eq_of_lt ha, Nat.mod_eq_of_lt hb]
  show IntKind.u64.wrap ((BitVec.ofInt IntKind.u64.bits (a : Int) ||| BitVec.ofInt IntKind.u64.bits (b : Int)).toNat : Int) = _
  rw [e]
  exact wrap_u64 h1

theorem and127F : ∀ n : Fin 256, bits BinOp.and IntKind.u8 (n.val : Int) 127 = ((n.val % 128 : Nat) : Int) := by decide +kernel
theorem and127 {b : Nat} (hb : b < 256) : bits BinOp.and IntKind.u8 (b : Int) 127 = ((b % 128 : Nat) : Int) := and127F ⟨b, hb⟩

theorem acc_step {a b k : Nat} (ha : a < 128 ^ k) (hk : k ≤ 4) (hb : b < 256) :
    bits BinOp.or IntKind.u64 (a : Int) (IntKind.u64.wrap (IntKind.u64.wrap (bits BinOp.and IntKind.u8 (b : Int) 127) * 2 ^ (7 * k))) = ((a + b % 128 * 128 ^ k : Nat) : Int) := by
  have hp : (128 : Nat) ^ k ≤ 268435456 := by
    have : (128 : Nat) ^ k ≤ 128 ^ 4 := Nat.pow_le_pow_right (by decide) hk
    simpa using this
  have e1 : (128 : Nat) ^ k = 2 ^ (7 * k) := by rw [Nat.pow_mul]
  rw [and127 hb, wrap_u64 (by omega)]
  have e2 : ((b % 128 : Nat) : Int) * 2 ^ (7 * k) = ((b % 128 * 128 ^ k : Nat) : Int) := by
    rw [e1]; push_cast; rfl
  have hlt : b % 128 * 128 ^ k ≤ 127 * 268435456 := Nat.mul_le_mul (by omega) hp
  rw [e2, wrap_u64 (by omega), bits_or_u64 _ _ (by omega) (by omega)]
  congr 1
  rw [Nat.or_comm, Nat.mul_comm, e1, ← Nat.two_pow_add_eq_or_of_lt (by rw [← e1]; exact ha), Nat.add_comm]

theorem at_mid {s : ByteArray} {pre l rest : List UInt8} {b : UInt8} {k : Nat} (he : s.data.toList = pre ++ (b :: l) ++ rest) (hp : pre.length = k) (h : k < s.size) : s[k] = b := by
  have h1 : s.data.toList[k]? = some b := by rw [he, List.append_assoc, List.getElem?_append_right (by omega), hp]; simp
  have h2 : s.data[k]? = some b := by rw [← Array.getElem?_toList]; exact h1
  have h3 := (Array.getElem?_eq_some_iff.1 h2).2
  exact h3

theorem vb_pos (m : Nat) : 0 < (vb m).length := by
  by_cases h : m < 128
  · rw [vb_lt h]; simp
  · rw [vb_ge h]; simp

set_option maxRecDepth 100000 in
set_option maxHeartbeats 800000 in
theorem getVar_calls (s : ByteArray) (n : Nat) (rest : List UInt8) (w : World) (hs : s.data.toList = vb n ++ rest) (hn : n < 2147483648) :
    Calls Tryz.prog 163 #[.string s] w (fun e w' => e = .returned (.tuple #[u64 n, i64 (vb n).length]) ∧ w = w') := by
  have hsz : s.size = (vb n).length + rest.length := by
    have := congrArg List.length hs
    simpa using this
  have HSz := Lib.hid hsz
  obtain ⟨N, hN⟩ : ∃ N, N = s.size := ⟨_, rfl⟩
  have HS := Lib.hid hs
  clear hs hsz
  go_enter Tryz.func163, Tryz.ntmps163
  go_wp2_with fail
  all_goals
  go_loopw [2, 8] (fun x i wr => ∃ (k m a : Nat) (pre : List UInt8), i = i64 k ∧ x = u64 a ∧ a < 128 ^ k ∧ s.data.toList = pre ++ vb m ++ rest ∧ pre.length = k ∧ n = a + m * 128 ^ k ∧ k + (vb m).length = (vb n).length ∧ wr = w) (fun _ i _ => 10 - (intOf i).toNat)
  case atStart =>
    exact ⟨0, n, 0, [], rfl, rfl, by simp, by simpa using HS.out, rfl, by omega, by omega, rfl⟩
  case round =>
    obtain ⟨k, m, a, pre, rfl, rfl, ha, he, hp, hnm, hk, rfl⟩ := hrel
    have hlen : (vb n).length ≤ 5 := vb_length (k := 4) (by omega)
    have hpos := vb_pos m
    have hk4 : k ≤ 4 := by omega
    have hks : k < s.size := by have := HSz.out; omega
    obtain ⟨b, hb⟩ : ∃ b, (s[k]).toNat = b := ⟨_, rfl⟩
    have hb8 : b < 256 := by rw [← hb]; exact UInt8.toNat_lt _
    have hk9 : ¬ ((k : Int) = 9) := by omega
    have hk9b : ((k : Int) == 9) = false := by simp; omega
    have hacc := acc_step ha hk4 hb8
    obtain ⟨r, hr⟩ : ∃ r, r = a + b % 128 * 128 ^ k := ⟨_, rfl⟩
    rw [← hr] at hacc
    have HE := Lib.hid he
    have HN := Lib.hid hnm
    have HK := Lib.hid hk
    have HP := Lib.hid hp
    have HR := Lib.hid hr
    have HA := Lib.hid ha
    have HB := Lib.hid hb
    have hkN : (k : Int) < s.size := by omega
    clear he hnm hk hp hr ha hN
    by_cases hm : m < 128
    · have hbm : b = m := by
        have := HE.out
        rw [vb_lt hm] at this
        have h1 := at_mid this HP.out hks
        rw [h1] at hb
        rw [← hb]; simp; omega
      have HBM := Lib.hid hbm
      have hb128 : (b : Int) < 128 := by omega
      clear hbm
      go_wp2_with fail
      go_ret2
      refine ⟨?_, rfl⟩
      have hR := HR.out
      rw [HBM.out, Nat.mod_eq_of_lt hm, ← HN.out] at hR
      have hK := HK.out
      rw [vb_lt hm] at hK
      simp only [List.length_singleton] at hK
      rw [hR, ← hK]; rfl
    · have hbm : b = m % 128 + 128 := by
        have := HE.out
        rw [vb_ge hm] at this
        have h1 := at_mid this HP.out hks
        rw [h1] at hb
        rw [← hb]; simp; omega
      have HBM := Lib.hid hbm
      have hb128 : ¬ (b : Int) < 128 := by omega
      clear hbm
      go_wp2_with fail
      go_roundw
      case rel =>
        have hR := HR.out
        have hN := HN.out
        have hbm : b % 128 = m % 128 := by rw [HBM.out]; omega
        rw [hbm] at hR
        have hpow : (128 : Nat) ^ (k + 1) = 128 * 128 ^ k := by rw [Nat.pow_succ, Nat.mul_comm]
        have hdm : m % 128 * 128 ^ k + m / 128 * (128 * 128 ^ k) = m * 128 ^ k := by
          have : m = m % 128 + 128 * (m / 128) := (Nat.mod_add_div m 128).symm
          conv => rhs; rw [this]
          rw [Nat.add_mul, Nat.mul_comm 128 (m / 128), Nat.mul_assoc]
        refine ⟨k + 1, m / 128, r, pre ++ [UInt8.ofNat (m % 128 + 128)], by go_num, rfl, ?_, ?_, by simp [HP.out], ?_, ?_, trivial⟩
        · rw [hpow, hR]
          have h1 := HA.out
          have h2 : m % 128 * 128 ^ k ≤ 127 * 128 ^ k := Nat.mul_le_mul_right _ (by omega)
          omega
        · rw [HE.out, vb_ge hm]; simp
        · rw [hpow, hR, hN]; omega
        · have hK := HK.out
          rw [vb_ge hm] at hK
          simp only [List.length_cons] at hK
          omega
      case measure => simp [intOf]; omega
end

section
/-- a reader's text in memory: pre is read, g is left -/
def InIs (w : World) (ib : Nat) (S : ByteArray) (pre g : List UInt8) : Prop :=
  Blk w ib [.string S, i64 pre.length, i64 0] 156 ∧ S.data.toList = pre ++ g

theorem InIs.size {w : World} {ib : Nat} {S : ByteArray} {pre g : List UInt8} (h : InIs w ib S pre g) : S.size = pre.length + g.length := by
  have := congrArg List.length h.2
  simpa using this

theorem vb_last (n : Nat) : ∃ q x, vb n = q ++ [UInt8.ofNat x] ∧ x < 128 ∧ (1 < (vb n).length → x ≠ 0) := by
  induction n using Nat.strongRecOn with
  | ind n ih =>
    by_cases h : n < 128
    · exact ⟨[], n, by rw [vb_lt h]; rfl, h, by rw [vb_lt h]; simp⟩
    · obtain ⟨q, x, hq, hx, hn⟩ := ih (n / 128) (by omega)
      refine ⟨UInt8.ofNat (n % 128 + 128) :: q, x, by rw [vb_ge h, hq]; rfl, hx, fun _ => ?_⟩
      by_cases h2 : n / 128 < 128
      · rw [vb_lt h2] at hq
        have : [UInt8.ofNat (n / 128)] = q ++ [UInt8.ofNat x] := hq
        cases q with
        | nil =>
          simp only [List.nil_append, List.cons.injEq, and_true] at this
          have e := congrArg UInt8.toNat this
          simp at e
          omega
        | cons a q => simp at this
      · apply hn
        rw [vb_ge h2]
        have := vb_pos (n / 128 / 128)
        simp; omega

set_option maxRecDepth 100000 in
set_option maxHeartbeats 800000 in
theorem number_calls (ib : Nat) (S : ByteArray) (pre g : List UInt8) (n : Nat) (w : World) (h : InIs w ib S pre (vb n ++ g)) (hn : n < 2147483648) (hS : S.size ≤ 100000) :
    Calls Tryz.prog 162 #[.pointer (some ⟨ib, 0, none⟩)] w (fun e w' => e = .returned (.tuple #[u64 n, i64 0]) ∧ InIs w' ib S (pre ++ vb n) g ∧ Mod [ib] w w') := by
  have hlt := h.1.lt
  obtain ⟨c0, f0⟩ := h.1.read
  have hsz := h.size
  simp only [List.length_append] at hsz
  have hpos := vb_pos n
  obtain ⟨L, hL⟩ : ∃ L, (vb n).length = L := ⟨_, rfl⟩
  obtain ⟨A, hA⟩ : ∃ A, pre.length = A := ⟨_, rfl⟩
  rw [hL] at hsz hpos
  rw [hA] at hsz c0
  have q1 : (A : Int) ≤ S.size := by omega
  have HH := Lib.hid h
  have HL := Lib.hid hL
  have HA := Lib.hid hA
  have HZ := Lib.hid hsz
  have hx : (S.extract A S.size).data.toList = vb n ++ g := by
    have e1 : (S.extract A S.size).data = S.data.extract A S.size := ByteArray.data_extract
    rw [e1, Array.toList_extract, h.2, ← hA]
    simp only [List.extract_eq_take_drop, List.drop_left]
    rw [List.take_of_length_le]
    simp only [List.length_append]; omega
  have HX := Lib.hid hx
  clear h hL hA hsz hx
  go_enter Tryz.func162, Tryz.ntmps162
  go_wp2_with fail
  go_region_held3 (fun w' => w'.cell? ⟨ib, 0, none⟩ = some (.string S) ∧ w'.cell? ⟨ib, 1, none⟩ = some (i64 A)) (first | assumption | go_keep | (simp [*, go_sem]; done)) (with_reducible refine (getVar_calls (S.extract A S.size) n g _ HX.out hn).mono ?_; rintro e w' ⟨rfl, rfl⟩)
  have hL0 : ¬ (L : Int) = 0 := by omega
  have hL1 : ¬ (L : Int) < 0 := by omega
  have hL0b : ((L : Int) == 0) = false := by simp; omega
  have hL0d : decide ((L : Int) = 0) = false := by simp; omega
  have hL1d : decide ((L : Int) < 0) = false := by simp
  rw [HL.out]
  go_wp2_with fail
  go_quiet (fail)
  obtain ⟨q, x, hq, hx, hxn⟩ := vb_last n
  rw [HL.out] at hxn
  obtain ⟨I, hI⟩ : ∃ I, I = A + L - 1 := ⟨_, rfl⟩
  have hI2 : (A : Int) + (L : Int) - 1 = (I : Int) := by omega
  have hIs : I < S.size := by have := HZ.out; omega
  have hIsz : (I : Int) < S.size := by omega
  have hql : q.length = L - 1 := by
    have h1 := HL.out
    rw [hq] at h1
    simp at h1; omega
  have hSI : S[I] = UInt8.ofNat x := at_mid (pre := pre ++ q) (l := []) (rest := g) (by rw [HH.out.2, hq]; simp) (by rw [List.length_append, HA.out, hql]; omega) hIs
  have hb : (S[I]).toNat = x := by rw [hSI]; simp; omega
  have HI := Lib.hid hI
  have Hq := Lib.hid hq
  clear hI hSI hq hql
  go_wp2_with fail
  by_cases hL2 : 1 < L
  · have hL2d : decide ((L : Int) > 1) = true := by simp; omega
    have hL2e : (1 : Int) < L := by omega
    have hx0 : ¬ (x : Int) = 0 := by have := hxn hL2; omega
    have hx0b : ((x : Int) == 0) = false := by simp; exact hxn hL2
    clear hxn
    go_quiet (fail)
    go_wp2_with fail
    go_ret2
    refine ⟨rfl, ⟨?_, ?_⟩, ?_⟩
    · have hb := HH.out.1.set 1 (i64 ((A : Int) + L))
      have e : ((pre ++ vb n).length : Int) = (A : Int) + L := by rw [List.length_append, HA.out, HL.out]; push_cast; rfl
      rw [e]
      exact hb
    · rw [HH.out.2, List.append_assoc]
    · with_reducible refine Mod.setCell ?_ (by simp) _
      repeat (first | (with_reducible exact Mod.refl _ _) | (with_reducible refine Mod.drew ?_) | (with_reducible refine Mod.drewN ?_ _))
  · have hL2d : decide ((L : Int) > 1) = false := by simp; omega
    have hL2e : ¬ (1 : Int) < L := by omega
    clear hxn
    go_quiet (fail)
    go_wp2_with fail
    go_ret2
    refine ⟨rfl, ⟨?_, ?_⟩, ?_⟩
    · have hb := HH.out.1.set 1 (i64 ((A : Int) + L))
      have e : ((pre ++ vb n).length : Int) = (A : Int) + L := by rw [List.length_append, HA.out, HL.out]; push_cast; rfl
      rw [e]
      exact hb
    · rw [HH.out.2, List.append_assoc]
    · with_reducible refine Mod.setCell ?_ (by simp) _
      repeat (first | (with_reducible exact Mod.refl _ _) | (with_reducible refine Mod.drew ?_) | (with_reducible refine Mod.drewN ?_ _))
end

section
theorem wrap_i64 {a : Nat} (ha : a < 9223372036854775808) : IntKind.i64.wrap (a : Int) = a := by
  simp [IntKind.wrap, IntKind.signed, IntKind.bits]
  omega

set_option maxRecDepth 100000 in
theorem most_calls (ib : Nat) (S : ByteArray) (pre g : List UInt8) (n : Nat) (most : Int) (w : World) (h : InIs w ib S pre (vb n ++ g)) (hn : n < 2147483648) (hS : S.size ≤ 100000) (hm : (n : Int) ≤ most) (hm2 : most < 2147483648) :
    Calls Tryz.prog 159 #[.pointer (some ⟨ib, 0, none⟩), i64 most] w (fun e w' => e = .returned (.tuple #[i64 n, i64 0]) ∧ InIs w' ib S (pre ++ vb n) g ∧ Mod [ib] w w') := by
  obtain ⟨M, hM⟩ := Int.eq_ofNat_of_zero_le (show 0 ≤ most by omega)
  have hw1 : IntKind.u64.wrap most = most := by rw [hM]; exact wrap_u64 (by omega)
  have hw2 : wrap64 (n : Int) = n := by unfold wrap64; omega
  have hm0 : ¬ most < 0 := by omega
  have hm0d : decide (most < 0) = false := by simp; omega
  have hmn : ¬ most < (n : Int) := by omega
  have hmnd : decide (most < (n : Int)) = false := by simp; omega
  clear hM
  go_enter Tryz.func159, Tryz.ntmps159
  go_wp2_with fail
  refine (number_calls ib S pre g n w h hn hS).mono ?_
  rintro e w1 ⟨rfl, hI, hM⟩
  have HI := Lib.hid hI
  have HM := Lib.hid hM
  have HM2 := Lib.hid hm2
  have HM1 := Lib.hid hm
  have HN := Lib.hid hn
  clear hI hM h hm2 hm hn
  iterate 12 (go_wp21)
  go_ret2
  refine ⟨?_, HI.out, HM.out⟩
  show Ending.returned (.tuple #[i64 (wrap64 n), i64 0]) = _
  rw [hw2]

set_option maxRecDepth 100000 in
theorem most1_calls (ib pb mb nb : Nat) (S : ByteArray) (pre g : List UInt8) (n : Nat) (most x : Int) (w : World) (h : InIs w ib S pre (vb n ++ g)) (hn : n < 2147483648) (hS : S.size ≤ 100000) (hm : (n : Int) ≤ most) (hm2 : most < 2147483648)
    (h1 : Blk w pb [.pointer (some ⟨ib, 0, none⟩)] 131) (h2 : Blk w mb [i64 most] 3) (h3 : Blk w nb [i64 x] 3) (n1 : pb ≠ ib) (n2 : mb ≠ ib) (n3 : nb ≠ ib) :
    Calls Tryz.prog 158 #[.pointer (some ⟨pb, 0, none⟩), .pointer (some ⟨mb, 0, none⟩), .pointer (some ⟨nb, 0, none⟩)] w (fun e w' => e = .returned (i64 0) ∧ InIs w' ib S (pre ++ vb n) g ∧ Blk w' nb [i64 n] 3 ∧ Mod [ib, nb] w w') := by
  obtain ⟨a1, b1⟩ := h1.read
  obtain ⟨a2, b2⟩ := h2.read
  have H3 := Lib.hid h3
  have H1 := Lib.hid h1
  clear h1 h2 h3
  go_enter Tryz.func158, Tryz.ntmps158
  go_wp2_with fail
  refine (most_calls ib S pre g n most w h hn hS hm hm2).mono ?_
  rintro e w1 ⟨rfl, hI, hM⟩
  have h3 := H3.out.mod hM (by simpa using n3)
  obtain ⟨a3, b3⟩ := h3.read
  have HI := Lib.hid hI
  have HM := Lib.hid hM
  have H3 := Lib.hid h3
  clear hI hM h h3 a1 b1 a2 b2
  go_wp2_with fail
  go_ret
  refine ⟨rfl, ⟨HI.out.1.set_other _ _ (fun e => n3 e.symm), HI.out.2⟩, H3.out.set 0 _, ?_⟩
  have m1 : Mod [ib, nb] w w1 := HM.out.mono (by simp)
  exact m1.setCell (by simp) _

set_option maxRecDepth 100000 in
theorem try_most (ib pb mb nb : Nat) (S : ByteArray) (pre g : List UInt8) (n : Nat) (most x : Int) (w : World) (h : InIs w ib S pre (vb n ++ g)) (hn : n < 2147483648) (hS : S.size ≤ 100000) (hm : (n : Int) ≤ most) (hm2 : most < 2147483648)
    (h1 : Blk w pb [.pointer (some ⟨ib, 0, none⟩)] 131) (h2 : Blk w mb [i64 most] 3) (h3 : Blk w nb [i64 x] 3) (n1 : pb ≠ ib) (n2 : mb ≠ ib) (n3 : nb ≠ ib) :
    Calls Tryz.prog 156 #[.pointer (some ⟨ib, 0, none⟩), .func (.func 158) #[] #[.pointer (some ⟨pb, 0, none⟩), .pointer (some ⟨mb, 0, none⟩), .pointer (some ⟨nb, 0, none⟩)]] w (fun e w' => e = .returned (.tuple #[]) ∧ InIs w' ib S (pre ++ vb n) g ∧ Blk w' nb [i64 n] 3 ∧ Mod [ib, nb] w w') := by
  obtain ⟨a1, b1⟩ := h.1.read
  have R := most1_calls ib pb mb nb S pre g n most x w h hn hS hm hm2 h1 h2 h3 n1 n2 n3
  clear h h1 h2 h3
  go_enter Tryz.func156, Tryz.ntmps156
  go_wp2_with fail
  refine R.mono ?_
  rintro e w1 ⟨rfl, hI, hB, hM⟩
  have HI := Lib.hid hI
  have HM := Lib.hid hM
  have HB := Lib.hid hB
  clear hI hM hB R a1 b1
  go_wp2_with fail
  go_end0
  exact ⟨rfl, HI.out, HB.out, HM.out⟩

set_option maxRecDepth 100000 in
theorem Most_calls (ib : Nat) (S : ByteArray) (pre g : List UInt8) (n : Nat) (most : Int) (w : World) (h : InIs w ib S pre (vb n ++ g)) (hn : n < 2147483648) (hS : S.size ≤ 100000) (hm : (n : Int) ≤ most) (hm2 : most < 2147483648) :
    Calls Tryz.prog 152 #[.pointer (some ⟨ib, 0, none⟩), i64 most] w (fun e w' => e = .returned (i64 n) ∧ InIs w' ib S (pre ++ vb n) g ∧ Mod [ib] w w') := by
  have hlt := h.1.lt
  have e0 : Ext w (((w.alloc (.cells #[.pointer (some ⟨ib, 0, none⟩)] 131)).alloc (.cells #[i64 most] 3)).alloc (.cells #[i64 0] 3)) := by (refine Mod.to_ext (S := []) ?_ (by simp); repeat (first | (with_reducible exact Mod.refl _ _) | (with_reducible assumption) | (with_reducible refine Mod.alloc ?_ _) | (with_reducible refine Mod.drew ?_) | (with_reducible refine Mod.drewN ?_ _)))
  have h1 : Blk (((w.alloc (.cells #[.pointer (some ⟨ib, 0, none⟩)] 131)).alloc (.cells #[i64 most] 3)).alloc (.cells #[i64 0] 3)) w.heap.size [.pointer (some ⟨ib, 0, none⟩)] 131 := ((Blk.new w [.pointer (some ⟨ib, 0, none⟩)] 131).old _).old _
  have h2 : Blk (((w.alloc (.cells #[.pointer (some ⟨ib, 0, none⟩)] 131)).alloc (.cells #[i64 most] 3)).alloc (.cells #[i64 0] 3)) (w.heap.size + 1) [i64 most] 3 := (Blk.at _ [i64 most] 3 _ (by simp)).old _
  have h3 : Blk (((w.alloc (.cells #[.pointer (some ⟨ib, 0, none⟩)] 131)).alloc (.cells #[i64 most] 3)).alloc (.cells #[i64 0] 3)) (w.heap.size + 2) [i64 0] 3 := Blk.at _ [i64 0] 3 _ (by simp)
  have R := try_most ib w.heap.size (w.heap.size + 1) (w.heap.size + 2) S pre g n most 0 _ ⟨h.1.ext e0, h.2⟩ hn hS hm hm2 h1 h2 h3 (by omega) (by omega) (by omega)
  clear h1 h2 h3
  go_enter Tryz.func152, Tryz.ntmps152
  go_wp2_with fail
  refine R.mono ?_
  rintro e w1 ⟨rfl, hI, hB, hM⟩
  obtain ⟨a1, b1⟩ := hB.read
  have HI := Lib.hid hI
  have HM := Lib.hid hM
  have HB := Lib.hid hB
  clear hI hM hB R
  go_wp2_with fail
  refine bodyPost_ret (v := i64 n) (by simp [results, Tryz.results152, go_sem, a1]) rfl ?_
  refine ⟨rfl, ⟨HI.out.1.set_other _ _ (by simp; omega), HI.out.2⟩, ?_⟩
  have m0 : Mod [ib] w w1 := (Mod.of_ext e0).step HM.out (by simp)
  exact m0.setCell (by right; simp; omega) _

theorem fault_calls (ib : Nat) (S : ByteArray) (pre g : List UInt8) (w : World) (h : InIs w ib S pre g) :
    Calls Tryz.prog 96 #[.pointer (some ⟨ib, 0, none⟩)] w (fun e w' => e = .returned (.tuple #[i64 0, i64 0]) ∧ w = w') := by
  obtain ⟨a1, b1⟩ := h.1.read
  go_enter Tryz.func96, Tryz.ntmps96
  go_wp2_with fail
  go_ret2
  exact ⟨rfl, rfl⟩

theorem left_calls (ib : Nat) (S : ByteArray) (pre : List UInt8) (w : World) (h : InIs w ib S pre []) (hS : S.size ≤ 100000) :
    Calls Tryz.prog 97 #[.pointer (some ⟨ib, 0, none⟩)] w (fun e w' => e = .returned (i64 0) ∧ ∃ n, w' = w.drewN n) := by
  obtain ⟨a1, b1⟩ := h.1.read
  have hz := h.size
  simp only [List.length_nil, Nat.add_zero] at hz
  rw [← hz] at a1
  go_enter Tryz.func97, Tryz.ntmps97
  go_wp2_with fail
  go_quiet (fail)
  go_wp2_with fail
  go_ret
  exact ⟨rfl, _, rfl⟩

theorem end_calls' (ib : Nat) (S : ByteArray) (pre : List UInt8) (w : World) (h : InIs w ib S pre []) (hS : S.size ≤ 100000) :
    Calls Tryz.prog 74 #[.pointer (some ⟨ib, 0, none⟩)] w (fun e w' => e = .returned (i64 0) ∧ Ext w w') := by
  go_enter Tryz.func74, Tryz.ntmps74
  go_wp2_with fail
  refine (fault_calls ib S pre [] w h).mono ?_
  rintro e w1 ⟨rfl, rfl⟩
  go_wp2_with fail
  refine (left_calls ib S pre w h hS).mono ?_
  rintro e w1 ⟨rfl, n, rfl⟩
  go_wp2_with fail
  go_ret
  exact ⟨rfl, by (refine Mod.to_ext (S := []) ?_ (by simp); repeat (first | (with_reducible exact Mod.refl _ _) | (with_reducible assumption) | (with_reducible refine Mod.alloc ?_ _) | (with_reducible refine Mod.drew ?_) | (with_reducible refine Mod.drewN ?_ _)))⟩
end
end Go.Proofs.YtchmhkdnegngdaaGreat
