/- sum: made, More, Crc. -/
import Derived.Test.YtchmhkdnegngdaaGreatWv
set_option linter.unusedVariables false
set_option linter.unusedSimpArgs false
namespace Go.Proofs.YtchmhkdnegngdaaGreat
open Go.RowKit


abbrev U32 (n : Int) : Value := .int .u32 n

def stepC (c : Int) : Int := if (bits BinOp.and IntKind.u32 c 1 == 1) = true then bits BinOp.xor IntKind.u32 (c / 2) 2197175160 else c / 2
def itC : Nat → Int → Int
  | 0, c => c
  | j + 1, c => stepC (itC j c)
/-- an entry of the table -/
def tabC (i : Nat) : Int := itC 4 i
def cellsK (k : Nat) : List Value := (List.range 16).map (fun j => U32 (if j < k then tabC j else 0))

theorem cellsK_len (k : Nat) : (cellsK k).length = 16 := by simp [cellsK]

theorem cellsK_get {k i : Nat} (hi : i < 16) : (cellsK k)[i]? = some (U32 (if i < k then tabC i else 0)) := by
  simp [cellsK, hi]

theorem cellsK_set {k : Nat} (hk : k < 16) : (cellsK k).set k (U32 (tabC k)) = cellsK (k + 1) := by
  apply List.ext_getElem?
  intro i
  rw [List.getElem?_set]
  by_cases h16 : i < 16
  · rw [cellsK_get h16, cellsK_get h16, cellsK_len]
    by_cases e : k = i
    · subst e; simp [hk]
    · rw [if_neg e]
      by_cases h : i < k
      · rw [if_pos h, if_pos (by omega)]
      · rw [if_neg h, if_neg (by omega)]
  · rw [if_neg (by omega), List.getElem?_eq_none (by rw [cellsK_len]; omega), List.getElem?_eq_none (by rw [cellsK_len]; omega)]

def tabA : Array Value := (cellsK 16).toArray
theorem tabA_size : tabA.size = 16 := by simp [tabA, cellsK_len]
theorem tabA_one : tabA.all (·.oneCell') = true := by
  rw [Array.all_eq_true_iff_forall_mem]
  intro x hx
  simp only [tabA, List.mem_toArray, cellsK, List.mem_map] at hx
  obtain ⟨j, _, rfl⟩ := hx
  rfl

set_option maxRecDepth 100000 in
set_option maxHeartbeats 800000 in
theorem made_calls (w : World) : Calls Tryz.prog 126 #[] w (fun e w' => e = .returned (.agg tabA) ∧ Ext w w') := by
  have hi : (Tryz.prog.info? 210).map (·.size) = some tabA.size := by rw [tabA_size]; kernel_rfl
  have HI := Lib.hid hi
  clear hi
  go_enter Tryz.func126, Tryz.ntmps126
  go_wp2_with fail
  go_loopw [3] (fun i wr => ∃ k : Nat, k ≤ 16 ∧ i = i64 k ∧ Blk wr w.heap.size (cellsK k) 210 ∧ Ext w wr) (fun i _ => 16 - (intOf i).toNat)
  case atStart =>
    exact ⟨0, by omega, rfl, Blk.new w (cellsK 0) 210, by (refine Mod.to_ext (S := []) ?_ (by simp); repeat (first | (with_reducible exact Mod.refl _ _) | (with_reducible assumption) | (with_reducible refine Mod.alloc ?_ _) | (with_reducible refine Mod.drew ?_) | (with_reducible refine Mod.drewN ?_ _)))⟩
  case round =>
    obtain ⟨k, hk, rfl, hB, hE⟩ := hrel
    have HB := Lib.hid hB
    have HE := Lib.hid hE
    by_cases hlt : k < 16
    · have hck : wr.cell? ⟨w.heap.size, k, none⟩ = some (U32 0) := by
        rw [hB.read.1, cellsK_get hlt, if_neg (by omega)]
      have f1 := hB.read.2
      clear hB hE
      go_wp2_with fail
      go_loopw [2, 8] (fun c j wr2 => ∃ (j2 : Nat), j2 ≤ 4 ∧ j = i64 j2 ∧ c = U32 (itC j2 k) ∧ wr2 = wr) (fun _ j _ => 4 - (intOf j).toNat)
      case atStart => exact ⟨0, by omega, rfl, by go_num, rfl⟩
      case round =>
        obtain ⟨j, hj, rfl, rfl, rfl⟩ := hrel
        by_cases hj2 : j < 4
        · obtain ⟨c, hc⟩ : ∃ c, itC j k = c := ⟨_, rfl⟩
          rw [hc]
          have HC := Lib.hid hc
          clear hc
          go_wp2_with fail
          all_goals
          go_roundw
          case rel =>
            refine ⟨j + 1, by omega, by go_num, ?_, trivial⟩
            have e : itC (j + 1) k = stepC c := by rw [← HC.out]; rfl
            rw [e]
            unfold stepC
            first
            | rw [if_pos (by assumption)]
            | rw [if_neg (by simp_all)]
          case measure => simp [intOf]; omega
        · have hj4 : j = 4 := by omega
          subst hj4
          obtain ⟨c, hc⟩ : ∃ c, itC 4 k = c := ⟨_, rfl⟩
          rw [hc]
          have HC := Lib.hid hc
          clear hc
          go_wp2_with fail
          go_roundw
          case rel =>
            refine ⟨k + 1, by omega, by go_num, ?_, ?_⟩
            · rw [← cellsK_set hlt]
              have := HB.out.set k (U32 c)
              have e : tabC k = c := HC.out
              rw [e]
              exact this
            · refine Mod.to_ext (S := [w.heap.size]) ?_ (by simp)
              have M0 : Mod [w.heap.size] w wr := Mod.of_ext HE.out
              repeat (first | (with_reducible exact Mod.refl _ _) | (with_reducible assumption) | (with_reducible refine Mod.setCell ?_ (by simp) _) | (with_reducible refine Mod.alloc ?_ _) | (with_reducible refine Mod.drew ?_) | (with_reducible refine Mod.drewN ?_ _))
          case measure => simp [intOf]; omega
    · have hk6 : k = 16 := by omega
      subst hk6
      clear hB hE
      go_wp2_with (first | (refine wpList_load_row rfl 210 (.tmp 0) rfl w.heap.size rfl 210 tabA (0, 0) _ HB.out Tryz.underlying210 rfl HI.out ?_) | (refine wpList_store_row rfl 210 (.tmp 0) (.tmp 23) rfl w.heap.size tabA rfl rfl 210 _ HB.out HI.out rfl tabA_one ?_))
      refine bodyPost_ret (results_cell_row rfl _ _ w.heap.size 210 tabA (0, 0) _ rfl (setRow_heap _ _ _ _ 210 (0, 0) HB.out) Tryz.underlying210 rfl HI.out) rfl ?_
      refine ⟨rfl, ?_⟩
      refine Mod.to_ext (S := [w.heap.size]) ?_ (by simp)
      have M0 : Mod [w.heap.size] w wr := Mod.of_ext HE.out
      exact ⟨M0.os, M0.tape, M0.output, by rw [size_setRow]; exact M0.size, fun q hq hs => (setRow_other wr w.heap.size q tabA (by simpa using hs)).trans (M0.block q hq hs)⟩

def u32w (n : Int) : Int := IntKind.u32.wrap n
theorem bits_u32_lt (op : BinOp) (x y : Int) : 0 ≤ bits op IntKind.u32 x y ∧ bits op IntKind.u32 x y < 4294967296 := by
  unfold bits
  simp only [IntKind.wrap, IntKind.signed, IntKind.bits, Bool.false_and]
  simp
  omega

theorem and15 (c : Int) : ∃ i : Nat, bits BinOp.and IntKind.u32 c 15 = i ∧ i < 16 := by
  have h := bits_u32_lt BinOp.and c 15
  have e : (BitVec.ofInt 32 c &&& BitVec.ofInt 32 15).toNat ≤ 15 := by
    rw [BitVec.toNat_and]
    exact Nat.and_le_right
  have e2 : bits BinOp.and IntKind.u32 c 15 = IntKind.u32.wrap ((BitVec.ofInt 32 c &&& BitVec.ofInt 32 15).toNat : Int) := rfl
  have e3 : ∀ n : Nat, n ≤ 15 → IntKind.u32.wrap (n : Int) = n := by
    intro n hn
    simp [IntKind.wrap, IntKind.signed, IntKind.bits]; omega
  refine ⟨(BitVec.ofInt 32 c &&& BitVec.ofInt 32 15).toNat, ?_, by omega⟩
  rw [e2, e3 _ e]

/-- half a byte of a register -/
def half (c : Int) : Int := bits BinOp.xor IntKind.u32 (c / 16) (tabC (bits BinOp.and IntKind.u32 c 15).toNat)
def cstep (c : Int) (b : UInt8) : Int := half (half (bits BinOp.xor IntKind.u32 c b.toNat))
def crcReg (l : List UInt8) : Int := l.foldl cstep (bits BinOp.xor IntKind.u32 IntKind.u32.max 0)
/-- the sum -/
def crcI (l : List UInt8) : Int := bits BinOp.xor IntKind.u32 IntKind.u32.max (crcReg l)
def crcN (l : List UInt8) : Nat := (crcI l).toNat
theorem crcN_cast (l : List UInt8) : (crcN l : Int) = crcI l := by
  have := bits_u32_lt BinOp.xor IntKind.u32.max (crcReg l)
  unfold crcN; unfold crcI at *; omega
theorem crcN_lt (l : List UInt8) : crcN l < 4294967296 := by
  have := bits_u32_lt BinOp.xor IntKind.u32.max (crcReg l)
  unfold crcN crcI; omega

theorem at_mid' {s : ByteArray} {l : List UInt8} {k : Nat} (he : s.data.toList = l) (hk : k < l.length) (h : k < s.size) : s[k] = l[k] := by
  subst he
  exact (Array.getElem_toList _).symm

set_option maxRecDepth 100000 in
set_option maxHeartbeats 800000 in
theorem more_calls (S : ByteArray) (l : List UInt8) (w : World) (hS : S.data.toList = l) (hl : l.length ≤ 100000) :
    Calls Tryz.prog 119 #[U32 0, .string S] w (fun e w' => e = .returned (U32 (crcI l)) ∧ Ext w w') := by
  have hsz : S.size = l.length := by have := congrArg List.length hS; simpa using this
  have hi : (Tryz.prog.info? 210).map (·.size) = some tabA.size := by rw [tabA_size]; kernel_rfl
  have HI := Lib.hid hi
  have HS := Lib.hid hS
  have HZ := Lib.hid hsz
  clear hi hS hsz
  go_enter Tryz.func119, Tryz.ntmps119
  go_wp2_with fail
  refine (made_calls w).mono ?_
  rintro e w1 ⟨rfl, hE⟩
  have HE := Lib.hid hE
  have g2 : (w1.alloc (.cells (cellsK 0).toArray 210)).heap[w1.heap.size]? = some (.cells (cellsK 0).toArray 210 (0, 0)) := heap_alloc_new _ _
  have G2 := Lib.hid g2
  clear hE g2
  go_wp2_with (first | (refine wpList_store_row rfl 210 (.tmp 5) (.tmp 8) rfl w1.heap.size tabA rfl rfl 210 _ G2.out HI.out rfl tabA_one ?_))
  have g3 : ((w1.alloc (.cells (cellsK 0).toArray 210)).setRow w1.heap.size tabA).heap[w1.heap.size]? = some (.cells (cellsK 16).toArray 210 (0, 0)) := setRow_heap _ _ _ tabA 210 (0, 0) G2.out
  have hE3 : Ext w ((w1.alloc (.cells (cellsK 0).toArray 210)).setRow w1.heap.size tabA) := by
    have M0 : Mod [] w (w1.alloc (.cells (cellsK 0).toArray 210)) := Mod.of_ext (HE.out.trans (by (refine Mod.to_ext (S := []) ?_ (by simp); repeat (first | (with_reducible exact Mod.refl _ _) | (with_reducible assumption) | (with_reducible refine Mod.alloc ?_ _) | (with_reducible refine Mod.drew ?_) | (with_reducible refine Mod.drewN ?_ _)))))
    exact Mod.to_ext ⟨M0.os, M0.tape, M0.output, by rw [size_setRow]; exact M0.size, fun q hq hs => (setRow_other _ w1.heap.size q tabA (by have := HE.out.size; omega)).trans (M0.block q hq hs)⟩ (by simp)
  have hcells : ∀ i, i < 16 → ((w1.alloc (.cells (cellsK 0).toArray 210)).setRow w1.heap.size tabA).cell? ⟨w1.heap.size, i, none⟩ = some (U32 (tabC i)) := by
    intro i hi
    have := (show Blk _ _ (cellsK 16) 210 from g3).read.1 i
    rw [this, cellsK_get hi, if_pos hi]
  have hc0 : cellsK 0 = [U32 0, U32 0, U32 0, U32 0, U32 0, U32 0, U32 0, U32 0, U32 0, U32 0, U32 0, U32 0, U32 0, U32 0, U32 0, U32 0] := by simp [cellsK, List.range, List.range.loop]
  rw [hc0] at hcells hE3
  revert hcells hE3
  generalize w1.heap.size = T
  generalize hW : World.setRow _ T tabA = W
  clear hW
  intro hE3 hcells
  have HC := Lib.hid hcells
  have HE3 := Lib.hid hE3
  clear hcells hE3 g3 hc0
  go_loopw [6, 13] (fun c i wr => ∃ k : Nat, k ≤ l.length ∧ i = i64 k ∧ c = U32 (crcReg (l.take k)) ∧ wr = W) (fun _ i _ => l.length - (intOf i).toNat)
  case atStart => exact ⟨0, by omega, rfl, rfl, rfl⟩
  case round =>
    obtain ⟨k, hk, rfl, rfl, rfl⟩ := hrel
    obtain ⟨c, hc⟩ : ∃ c, crcReg (l.take k) = c := ⟨_, rfl⟩
    rw [hc]
    have HCC := Lib.hid hc
    clear hc
    by_cases hlt : k < l.length
    · have hks : k < S.size := by have := HZ.out; omega
      have hSk : S[k] = l[k] := at_mid' HS.out hlt hks
      obtain ⟨b, hb⟩ : ∃ b, (S[k]).toNat = b := ⟨_, rfl⟩
      have hbl : b = (l[k]).toNat := by rw [← hb, hSk]
      obtain ⟨c1, hc1⟩ : ∃ c1, bits BinOp.xor IntKind.u32 c (b : Int) = c1 := ⟨_, rfl⟩
      obtain ⟨i1, hi1, hi1l⟩ := and15 c1
      obtain ⟨c2, hc2⟩ : ∃ c2, bits BinOp.xor IntKind.u32 (c1 / 16) (tabC i1) = c2 := ⟨_, rfl⟩
      obtain ⟨i2, hi2, hi2l⟩ := and15 c2
      obtain ⟨c3, hc3⟩ : ∃ c3, bits BinOp.xor IntKind.u32 (c2 / 16) (tabC i2) = c3 := ⟨_, rfl⟩
      have hbm : (b : Int) % 4294967296 = b := by have := UInt8.toNat_lt S[k]; omega
      have ht1 := HC.out i1 hi1l
      have ht2 := HC.out i2 hi2l
      have hkS : (k : Int) < S.size := by omega
      have HSK := Lib.hid hSk
      have HBL := Lib.hid hbl
      have hres : crcReg (l.take (k + 1)) = c3 := by
        unfold crcReg
        rw [List.take_add_one, List.foldl_append]
        simp only [hlt, List.getElem?_eq_getElem, Option.toList_some, List.foldl_cons, List.foldl_nil]
        have e := HCC.out
        unfold crcReg at e
        rw [e]
        unfold cstep
        rw [← hbl, hc1]
        have h1 : half c1 = c2 := by unfold half; rw [hi1, Int.toNat_natCast, hc2]
        have h2 : half c2 = c3 := by unfold half; rw [hi2, Int.toNat_natCast, hc3]
        rw [h1, h2]
      have HRES := Lib.hid hres
      clear hSk hbl hres
      go_wp2_with fail
      go_roundw
      case rel => exact ⟨k + 1, by omega, by go_num, by rw [HRES.out], trivial⟩
      case measure => simp [intOf]; omega
    · have hkl : k = l.length := by omega
      subst hkl
      clear hlt
      have hkS : ¬ (l.length : Int) < S.size := by have := HZ.out; omega
      go_wp2_with fail
      go_ret
      refine ⟨?_, HE3.out⟩
      have e := HCC.out
      rw [List.take_length] at e
      unfold crcI
      rw [e]; rfl

theorem crc_calls (S : ByteArray) (l : List UInt8) (w : World) (hS : S.data.toList = l) (hl : l.length ≤ 100000) :
    Calls Tryz.prog 91 #[.string S] w (fun e w' => e = .returned (U32 (crcN l)) ∧ Ext w w') := by
  have R := more_calls S l w hS hl
  go_enter Tryz.func91, Tryz.ntmps91
  go_wp2_with fail
  refine R.mono ?_
  rintro e w1 ⟨rfl, hE⟩
  have HE := Lib.hid hE
  clear hE R
  go_wp2_with fail
  go_ret
  exact ⟨by rw [crcN_cast]; rfl, HE.out⟩
end Go.Proofs.YtchmhkdnegngdaaGreat
