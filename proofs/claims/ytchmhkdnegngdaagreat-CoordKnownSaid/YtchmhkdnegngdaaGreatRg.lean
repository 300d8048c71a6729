/- pack: getVar. -/
import Derived.Test.YtchmhkdnegngdaaGreatWv
set_option linter.unusedVariables false
set_option linter.unusedSimpArgs false
namespace Go.Proofs.YtchmhkdnegngdaaGreat
open Go.RowKit


theorem wrap_u64 {a : Nat} (ha : a < 18446744073709551616) : IntKind.u64.wrap (a : Int) = a := by
  have h : (a : Int) % (2 ^ 64 : Int) = a := by omega
  simp [IntKind.wrap, IntKind.signed, IntKind.bits]
  omega

theorem bits_or_u64 (a b : Nat) (ha : a < 18446744073709551616) (hb : b < 18446744073709551616) : bits BinOp.or IntKind.u64 a b = ((a ||| b : Nat) : Int) := by
  have h1 : (a ||| b) < 2 ^ 64 := Nat.or_lt_two_pow ha hb
  unfold bits
  have e : (BitVec.ofInt IntKind.u64.bits (a : Int) ||| BitVec.ofInt IntKind.u64.bits (b : Int)).toNat = a ||| b := by
    show (BitVec.ofInt 64 (a : Int) ||| BitVec.ofInt 64 (b : Int)).toNat = a ||| b
    rw [BitVec.toNat_or, BitVec.ofInt_natCast, BitVec.ofInt_natCast, BitVec.toNat_ofNat, BitVec.toNat_ofNat, Nat.mod_eq_of_lt ha, Nat.mod_eq_of_lt hb]
  show IntKind.u64.wrap ((BitVec.ofInt IntKind.u64.bits (a : Int) ||| BitVec.ofInt IntKind.u64.bits (b : Int)).toNat : Int) = _
  rw [e]
  exact wrap_u64 h1

theorem and127F : ∀ n : Fin 256, bits BinOp.and IntKind.u8 (n.val : Int) 127 = ((n.val % 128 : Nat) : Int) := by decide +kernel
theorem and127 {b : Nat} (hb : b < 256) : bits BinOp.and IntKind.u8 (b : Int) 127 = ((b % 128 : Nat) : Int) := and127F ⟨b, hb⟩

theorem acc_step {a b k : Nat} (ha : a < 128 ^ k) (hk : k ≤ 4) (hb : b < 256) :
    bits BinOp.or IntKind.u64 (a : Int) (IntKind.u64.wrap (IntKind.u64.wrap (bits BinOp.and IntKind.u8 (b : Int) 127) * 2 ^ (7 * k))) = ((a + b % 128 * 128 ^ k : Nat) : Int) := by
  have hp : (128 : Nat) ^ k ≤ 268435456 := by
    have : (128 : Nat) ^ k ≤ 128 ^ 4 := Nat.pow_le_pow_right (by decide) hk
    simpa using this
  have e1 : (128 : Nat) ^ k = 2 ^ (7 * k) := by rw [Nat.pow_mul]
  rw [and127 hb, wrap_u64 (by omega)]
  have e2 : ((b % 128 : Nat) : Int) * 2 ^ (7 * k) = ((b % 128 * 128 ^ k : Nat) : Int) := by
    rw [e1]; push_cast; rfl
  have hlt : b % 128 * 128 ^ k ≤ 127 * 268435456 := Nat.mul_le_mul (by omega) hp
  rw [e2, wrap_u64 (by omega), bits_or_u64 _ _ (by omega) (by omega)]
  congr 1
  rw [Nat.or_comm, Nat.mul_comm, e1, ← Nat.two_pow_add_eq_or_of_lt (by rw [← e1]; exact ha), Nat.add_comm]

theorem at_mid {s : ByteArray} {pre l rest : List UInt8} {b : UInt8} {k : Nat} (he : s.data.toList = pre ++ (b :: l) ++ rest) (hp : pre.length = k) (h : k < s.size) : s[k] = b := by
  have h1 : s.data.toList[k]? = some b := by rw [he, List.append_assoc, List.getElem?_append_right (by omega), hp]; simp
  have h2 : s.data[k]? = some b := by rw [← Array.getElem?_toList]; exact h1
  have h3 := (Array.getElem?_eq_some_iff.1 h2).2
  exact h3

theorem vb_pos (m : Nat) : 0 < (vb m).length := by
  by_cases h : m < 128
  · rw [vb_lt h]; simp
  · rw [vb_ge h]; simp

set_option maxRecDepth 100000 in
set_option maxHeartbeats 800000 in
theorem getVar_calls (s : ByteArray) (n : Nat) (rest : List UInt8) (w : World) (hs : s.data.toList = vb n ++ rest) (hn : n < 2147483648) :
    Calls Tryz.prog 163 #[.string s] w (fun e w' => e = .returned (.tuple #[u64 n, i64 (vb n).length]) ∧ w = w') := by
  have hsz : s.size = (vb n).length + rest.length := by
    have := congrArg List.length hs
    simpa using this
  have HSz := Lib.hid hsz
  obtain ⟨N, hN⟩ : ∃ N, N = s.size := ⟨_, rfl⟩
  have HS := Lib.hid hs
  clear hs hsz
  go_enter Tryz.func163, Tryz.ntmps163
  go_wp2_with fail
  all_goals
  go_loopw [2, 8] (fun x i wr => ∃ (k m a : Nat) (pre : List UInt8), i = i64 k ∧ x = u64 a ∧ a < 128 ^ k ∧ s.data.toList = pre ++ vb m ++ rest ∧ pre.length = k ∧ n = a + m * 128 ^ k ∧ k + (vb m).length = (vb n).length ∧ wr = w) (fun _ i _ => 10 - (intOf i).toNat)
  case atStart =>
    exact ⟨0, n, 0, [], rfl, rfl, by simp, by simpa using HS.out, rfl, by omega, by omega, rfl⟩
  case round =>
    obtain ⟨k, m, a, pre, rfl, rfl, ha, he, hp, hnm, hk, rfl⟩ := hrel
    have hlen : (vb n).length ≤ 5 := vb_length (k := 4) (by omega)
    have hpos := vb_pos m
    have hk4 : k ≤ 4 := by omega
    have hks : k < s.size := by have := HSz.out; omega
    obtain ⟨b, hb⟩ : ∃ b, (s[k]).toNat = b := ⟨_, rfl⟩
    have hb8 : b < 256 := by rw [← hb]; exact UInt8.toNat_lt _
    have hk9 : ¬ ((k : Int) = 9) := by omega
    have hk9b : ((k : Int) == 9) = false := by simp; omega
    have hacc := acc_step ha hk4 hb8
    obtain ⟨r, hr⟩ : ∃ r, r = a + b % 128 * 128 ^ k := ⟨_, rfl⟩
    rw [← hr] at hacc
    have HE := Lib.hid he
    have HN := Lib.hid hnm
    have HK := Lib.hid hk
    have HP := Lib.hid hp
    have HR := Lib.hid hr
    have HA := Lib.hid ha
    have HB := Lib.hid hb
    have hkN : (k : Int) < s.size := by omega
    clear he hnm hk hp hr ha hN
    by_cases hm : m < 128
    · have hbm : b = m := by
        have := HE.out
        rw [vb_lt hm] at this
        have h1 := at_mid this HP.out hks
        rw [h1] at hb
        rw [← hb]; simp; omega
      have HBM := Lib.hid hbm
      have hb128 : (b : Int) < 128 := by omega
      clear hbm
      go_wp2_with fail
      go_ret2
      refine ⟨?_, rfl⟩
      have hR := HR.out
      rw [HBM.out, Nat.mod_eq_of_lt hm, ← HN.out] at hR
      have hK := HK.out
      rw [vb_lt hm] at hK
      simp only [List.length_singleton] at hK
      rw [hR, ← hK]; rfl
    · have hbm : b = m % 128 + 128 := by
        have := HE.out
        rw [vb_ge hm] at this
        have h1 := at_mid this HP.out hks
        rw [h1] at hb
        rw [← hb]; simp; omega
      have HBM := Lib.hid hbm
      have hb128 : ¬ (b : Int) < 128 := by omega
      clear hbm
      go_wp2_with fail
      go_roundw
      case rel =>
        have hR := HR.out
        have hN := HN.out
        have hbm : b % 128 = m % 128 := by rw [HBM.out]; omega
        rw [hbm] at hR
        have hpow : (128 : Nat) ^ (k + 1) = 128 * 128 ^ k := by rw [Nat.pow_succ, Nat.mul_comm]
        have hdm : m % 128 * 128 ^ k + m / 128 * (128 * 128 ^ k) = m * 128 ^ k := by
          have : m = m % 128 + 128 * (m / 128) := (Nat.mod_add_div m 128).symm
          conv => rhs; rw [this]
          rw [Nat.add_mul, Nat.mul_comm 128 (m / 128), Nat.mul_assoc]
        refine ⟨k + 1, m / 128, r, pre ++ [UInt8.ofNat (m % 128 + 128)], by go_num, rfl, ?_, ?_, by simp [HP.out], ?_, ?_, trivial⟩
        · rw [hpow, hR]
          have h1 := HA.out
          have h2 : m % 128 * 128 ^ k ≤ 127 * 128 ^ k := Nat.mul_le_mul_right _ (by omega)
          omega
        · rw [HE.out, vb_ge hm]; simp
        · rw [hpow, hR, hN]; omega
        · have hK := HK.out
          rw [vb_ge hm] at hK
          simp only [List.length_cons] at hK
          omega
      case measure => simp [intOf]; omega
end Go.Proofs.YtchmhkdnegngdaaGreat
