/- sum: made, More, Crc. frame: putLittle, put, Put. -/
import Derived.Test.YtchmhkdnegngdaaGreatGWv
import Derived.Lib.AppendStr
set_option linter.unusedVariables false
set_option linter.unusedSimpArgs false
namespace Go.Proofs.YtchmhkdnegngdaaGreat
open Go.RowKit

section
abbrev U32 (n : Int) : Value := .int .u32 n

def stepC (c : Int) : Int := if (bits BinOp.and IntKind.u32 c 1 == 1) = true then bits BinOp.xor IntKind.u32 (c / 2) 2197175160 else c / 2
def itC : Nat → Int → Int
  | 0, c => c
  | j + 1, c => stepC (itC j c)
/-- an entry of the table -/
def tabC (i : Nat) : Int := itC 4 i
def cellsK (k : Nat) : List Value := (List.range 16).map (fun j => U32 (if j < k then tabC j else 0))

theorem cellsK_len (k : Nat) : (cellsK k).length = 16 := by simp [cellsK]

theorem cellsK_get {k i : Nat} (hi : i < 16) : (cellsK k)[i]? = some (U32 (if i < k then tabC i else 0)) := by
  simp [cellsK, hi]

theorem cellsK_set {k : Nat} (hk : k < 16) : (cellsK k).set k (U32 (tabC k)) = cellsK (k + 1) := by
  apply List.ext_getElem?
  intro i
  rw [List.getElem?_set]
  by_cases h16 : i < 16
  · rw [cellsK_get h16, cellsK_get h16, cellsK_len]
    by_cases e : k = i
    · subst e; simp [hk]
    · rw [if_neg e]
      by_cases h : i < k
      · rw [if_pos h, if_pos (by omega)]
      · rw [if_neg h, if_neg (by omega)]
  · rw [if_neg (by omega), List.getElem?_eq_none (by rw [cellsK_len]; omega), List.getElem?_eq_none (by rw [cellsK_len]; omega)]

def tabA : Array Value := (cellsK 16).toArray
theorem tabA_size : tabA.size = 16 := by simp [tabA, cellsK_len]
theorem tabA_one : tabA.all (·.oneCell') = true := by
  rw [Array.all_eq_true_iff_forall_mem]
  intro x hx
  simp only [tabA, List.mem_toArray, cellsK, List.mem_map] at hx
  obtain ⟨j, _, rfl⟩ := hx
  rfl

set_option maxRecDepth 100000 in
set_option maxHeartbeats 800000 in
theorem made_calls (w : World) : Calls Tryz.prog 126 #[] w (fun e w' => e = .returned (.agg tabA) ∧ Ext w w') := by
  have hi : (Tryz.prog.info? 210).map (·.size) = some tabA.size := by rw [tabA_size]; kernel_rfl
  have HI := Lib.hid hi
  clear hi
  go_enter Tryz.func126, Tryz.ntmps126
  go_wp2_with fail
  go_loopw [3] (fun i wr => ∃ k : Nat, k ≤ 16 ∧ i = i64 k ∧ Blk wr w.heap.size (cellsK k) 210 ∧ Ext w wr) (fun i _ => 16 - (intOf i).toNat)
  case atStart =>
    exact ⟨0, by omega, rfl, Blk.new w (cellsK 0) 210, by (refine Mod.to_ext (S := []) ?_ (by simp); repeat (first | (with_reducible exact Mod.refl _ _) | (with_reducible assumption) | (with_reducible refine Mod.alloc ?_ _) | (with_reducible refine Mod.drew ?_) | (with_reducible refine Mod.drewN ?_ _)))⟩
  case round =>
    obtain ⟨k, hk, rfl, hB, hE⟩ := hrel
    have HB := Lib.hid hB
    have HE := Lib.hid hE
    by_cases hlt : k < 16
    · have hck : wr.cell? ⟨w.heap.size, k, none⟩ = some (U32 0) := by
        rw [hB.read.1, cellsK_get hlt, if_neg (by omega)]
      have f1 := hB.read.2
      clear hB hE
      go_wp2_with fail
      go_loopw [2, 8] (fun c j wr2 => ∃ (j2 : Nat), j2 ≤ 4 ∧ j = i64 j2 ∧ c = U32 (itC j2 k) ∧ wr2 = wr) (fun _ j _ => 4 - (intOf j).toNat)
      case atStart => exact ⟨0, by omega, rfl, by go_num, rfl⟩
      case round =>
        obtain ⟨j, hj, rfl, rfl, rfl⟩ := hrel
        by_cases hj2 : j < 4
        · obtain ⟨c, hc⟩ : ∃ c, itC j k = c := ⟨_, rfl⟩
          rw [hc]
          have HC := Lib.hid hc
          clear hc
          go_wp2_with fail
          all_goals
          go_roundw
          case rel =>
            refine ⟨j + 1, by omega, by go_num, ?_, trivial⟩
            have e : itC (j + 1) k = stepC c := by rw [← HC.out]; rfl
            rw [e]
            unfold stepC
            first
            | rw [if_pos (by assumption)]
            | rw [if_neg (by simp_all)]
          case measure => simp [intOf]; omega
        · have hj4 : j = 4 := by omega
          subst hj4
          obtain ⟨c, hc⟩ : ∃ c, itC 4 k = c := ⟨_, rfl⟩
          rw [hc]
          have HC := Lib.hid hc
          clear hc
          go_wp2_with fail
          go_roundw
          case rel =>
            refine ⟨k + 1, by omega, by go_num, ?_, ?_⟩
            · rw [← cellsK_set hlt]
              have := HB.out.set k (U32 c)
              have e : tabC k = c := HC.out
              rw [e]
              exact this
            · refine Mod.to_ext (S := [w.heap.size]) ?_ (by simp)
              have M0 : Mod [w.heap.size] w wr := Mod.of_ext HE.out
              repeat (first | (with_reducible exact Mod.refl _ _) | (with_reducible assumption) | (with_reducible refine Mod.setCell ?_ (by simp) _) | (with_reducible refine Mod.alloc ?_ _) | (with_reducible refine Mod.drew ?_) | (with_reducible refine Mod.drewN ?_ _))
          case measure => simp [intOf]; omega
    · have hk6 : k = 16 := by omega
      subst hk6
      clear hB hE
      go_wp2_with (first | (refine wpList_load_row rfl 210 (.tmp 0) rfl w.heap.size rfl 210 tabA (0, 0) _ HB.out Tryz.underlying210 rfl HI.out ?_) | (refine wpList_store_row rfl 210 (.tmp 0) (.tmp 23) rfl w.heap.size tabA rfl rfl 210 _ HB.out HI.out rfl tabA_one ?_))
      refine bodyPost_ret (results_cell_row rfl _ _ w.heap.size 210 tabA (0, 0) _ rfl (setRow_heap _ _ _ _ 210 (0, 0) HB.out) Tryz.underlying210 rfl HI.out) rfl ?_
      refine ⟨rfl, ?_⟩
      refine Mod.to_ext (S := [w.heap.size]) ?_ (by simp)
      have M0 : Mod [w.heap.size] w wr := Mod.of_ext HE.out
      exact ⟨M0.os, M0.tape, M0.output, by rw [size_setRow]; exact M0.size, fun q hq hs => (setRow_other wr w.heap.size q tabA (by simpa using hs)).trans (M0.block q hq hs)⟩

def u32w (n : Int) : Int := IntKind.u32.wrap n
theorem bits_u32_lt (op : BinOp) (x y : Int) : 0 ≤ bits op IntKind.u32 x y ∧ bits op IntKind.u32 x y < 4294967296 := by
  unfold bits
  simp only [IntKind.wrap, IntKind.signed, IntKind.bits, Bool.false_and]
  simp
  omega

theorem and15 (c : Int) : ∃ i : Nat, bits BinOp.and IntKind.u32 c 15 = i ∧ i < 16 := by
  have h := bits_u32_lt BinOp.and c 15
  have e : (BitVec.ofInt 32 c &&& BitVec.ofInt 32 15).toNat ≤ 15 := by
    rw [BitVec.toNat_and]
    exact Nat.and_le_right
  have e2 : bits BinOp.and IntKind.u32 c 15 = IntKind.u32.wrap ((BitVec.ofInt 32 c &&& BitVec.ofInt 32 15).toNat : Int) := rfl
  have e3 : ∀ n : Nat, n ≤ 15 → IntKind.u32.wrap (n : Int) = n := by
    intro n hn
    simp [IntKind.wrap, IntKind.signed, IntKind.bits]; omega
  refine ⟨(BitVec.ofInt 32 c &&& BitVec.ofInt 32 15).toNat, ?_, by omega⟩
  rw [e2, e3 _ e]

/-- half a byte of a register -/
def half (c : Int) : Int := bits BinOp.xor IntKind.u32 (c / 16) (tabC (bits BinOp.and IntKind.u32 c 15).toNat)
def cstep (c : Int) (b : UInt8) : Int := half (half (bits BinOp.xor IntKind.u32 c b.toNat))
def crcReg (l : List UInt8) : Int := l.foldl cstep (bits BinOp.xor IntKind.u32 IntKind.u32.max 0)
/-- the sum -/
def crcI (l : List UInt8) : Int := bits BinOp.xor IntKind.u32 IntKind.u32.max (crcReg l)
def crcN (l : List UInt8) : Nat := (crcI l).toNat
theorem crcN_cast (l : List UInt8) : (crcN l : Int) = crcI l := by
  have := bits_u32_lt BinOp.xor IntKind.u32.max (crcReg l)
  unfold crcN; unfold crcI at *; omega
theorem crcN_lt (l : List UInt8) : crcN l < 4294967296 := by
  have := bits_u32_lt BinOp.xor IntKind.u32.max (crcReg l)
  unfold crcN crcI; omega

theorem at_mid' {s : ByteArray} {l : List UInt8} {k : Nat} (he : s.data.toList = l) (hk : k < l.length) (h : k < s.size) : s[k] = l[k] := by
  subst he
  exact (Array.getElem_toList _).symm

set_option maxRecDepth 100000 in
set_option maxHeartbeats 800000 in
theorem more_calls (S : ByteArray) (l : List UInt8) (w : World) (hS : S.data.toList = l) (hl : l.length ≤ 100000) :
    Calls Tryz.prog 119 #[U32 0, .string S] w (fun e w' => e = .returned (U32 (crcI l)) ∧ Ext w w') := by
  have hsz : S.size = l.length := by have := congrArg List.length hS; simpa using this
  have hi : (Tryz.prog.info? 210).map (·.size) = some tabA.size := by rw [tabA_size]; kernel_rfl
  have HI := Lib.hid hi
  have HS := Lib.hid hS
  have HZ := Lib.hid hsz
  clear hi hS hsz
  go_enter Tryz.func119, Tryz.ntmps119
  go_wp2_with fail
  refine (made_calls w).mono ?_
  rintro e w1 ⟨rfl, hE⟩
  have HE := Lib.hid hE
  have g2 : (w1.alloc (.cells (cellsK 0).toArray 210)).heap[w1.heap.size]? = some (.cells (cellsK 0).toArray 210 (0, 0)) := heap_alloc_new _ _
  have G2 := Lib.hid g2
  clear hE g2
  go_wp2_with (first | (refine wpList_store_row rfl 210 (.tmp 5) (.tmp 8) rfl w1.heap.size tabA rfl rfl 210 _ G2.out HI.out rfl tabA_one ?_))
  have g3 : ((w1.alloc (.cells (cellsK 0).toArray 210)).setRow w1.heap.size tabA).heap[w1.heap.size]? = some (.cells (cellsK 16).toArray 210 (0, 0)) := setRow_heap _ _ _ tabA 210 (0, 0) G2.out
  have hE3 : Ext w ((w1.alloc (.cells (cellsK 0).toArray 210)).setRow w1.heap.size tabA) := by
    have M0 : Mod [] w (w1.alloc (.cells (cellsK 0).toArray 210)) := Mod.of_ext (HE.out.trans (by (refine Mod.to_ext (S := []) ?_ (by simp); repeat (first | (with_reducible exact Mod.refl _ _) | (with_reducible assumption) | (with_reducible refine Mod.alloc ?_ _) | (with_reducible refine Mod.drew ?_) | (with_reducible refine Mod.drewN ?_ _)))))
    exact Mod.to_ext ⟨M0.os, M0.tape, M0.output, by rw [size_setRow]; exact M0.size, fun q hq hs => (setRow_other _ w1.heap.size q tabA (by have := HE.out.size; omega)).trans (M0.block q hq hs)⟩ (by simp)
  have hcells : ∀ i, i < 16 → ((w1.alloc (.cells (cellsK 0).toArray 210)).setRow w1.heap.size tabA).cell? ⟨w1.heap.size, i, none⟩ = some (U32 (tabC i)) := by
    intro i hi
    have := (show Blk _ _ (cellsK 16) 210 from g3).read.1 i
    rw [this, cellsK_get hi, if_pos hi]
  have hc0 : cellsK 0 = [U32 0, U32 0, U32 0, U32 0, U32 0, U32 0, U32 0, U32 0, U32 0, U32 0, U32 0, U32 0, U32 0, U32 0, U32 0, U32 0] := by simp [cellsK, List.range, List.range.loop]
  rw [hc0] at hcells hE3
  revert hcells hE3
  generalize w1.heap.size = T
  generalize hW : World.setRow _ T tabA = W
  clear hW
  intro hE3 hcells
  have HC := Lib.hid hcells
  have HE3 := Lib.hid hE3
  clear hcells hE3 g3 hc0
  go_loopw [6, 13] (fun c i wr => ∃ k : Nat, k ≤ l.length ∧ i = i64 k ∧ c = U32 (crcReg (l.take k)) ∧ wr = W) (fun _ i _ => l.length - (intOf i).toNat)
  case atStart => exact ⟨0, by omega, rfl, rfl, rfl⟩
  case round =>
    obtain ⟨k, hk, rfl, rfl, rfl⟩ := hrel
    obtain ⟨c, hc⟩ : ∃ c, crcReg (l.take k) = c := ⟨_, rfl⟩
    rw [hc]
    have HCC := Lib.hid hc
    clear hc
    by_cases hlt : k < l.length
    · have hks : k < S.size := by have := HZ.out; omega
      have hSk : S[k] = l[k] := at_mid' HS.out hlt hks
      obtain ⟨b, hb⟩ : ∃ b, (S[k]).toNat = b := ⟨_, rfl⟩
      have hbl : b = (l[k]).toNat := by rw [← hb, hSk]
      obtain ⟨c1, hc1⟩ : ∃ c1, bits BinOp.xor IntKind.u32 c (b : Int) = c1 := ⟨_, rfl⟩
      obtain ⟨i1, hi1, hi1l⟩ := and15 c1
      obtain ⟨c2, hc2⟩ : ∃ c2, bits BinOp.xor IntKind.u32 (c1 / 16) (tabC i1) = c2 := ⟨_, rfl⟩
      obtain ⟨i2, hi2, hi2l⟩ := and15 c2
      obtain ⟨c3, hc3⟩ : ∃ c3, bits BinOp.xor IntKind.u32 (c2 / 16) (tabC i2) = c3 := ⟨_, rfl⟩
      have hbm : (b : Int) % 4294967296 = b := by have := UInt8.toNat_lt S[k]; omega
      have ht1 := HC.out i1 hi1l
      have ht2 := HC.out i2 hi2l
      have hkS : (k : Int) < S.size := by omega
      have HSK := Lib.hid hSk
      have HBL := Lib.hid hbl
      have hres : crcReg (l.take (k + 1)) = c3 := by
        unfold crcReg
        rw [List.take_add_one, List.foldl_append]
        simp only [hlt, List.getElem?_eq_getElem, Option.toList_some, List.foldl_cons, List.foldl_nil]
        have e := HCC.out
        unfold crcReg at e
        rw [e]
        unfold cstep
        rw [← hbl, hc1]
        have h1 : half c1 = c2 := by unfold half; rw [hi1, Int.toNat_natCast, hc2]
        have h2 : half c2 = c3 := by unfold half; rw [hi2, Int.toNat_natCast, hc3]
        rw [h1, h2]
      have HRES := Lib.hid hres
      clear hSk hbl hres
      go_wp2_with fail
      go_roundw
      case rel => exact ⟨k + 1, by omega, by go_num, by rw [HRES.out], trivial⟩
      case measure => simp [intOf]; omega
    · have hkl : k = l.length := by omega
      subst hkl
      clear hlt
      have hkS : ¬ (l.length : Int) < S.size := by have := HZ.out; omega
      go_wp2_with fail
      go_ret
      refine ⟨?_, HE3.out⟩
      have e := HCC.out
      rw [List.take_length] at e
      unfold crcI
      rw [e]; rfl

theorem crc_calls (S : ByteArray) (l : List UInt8) (w : World) (hS : S.data.toList = l) (hl : l.length ≤ 100000) :
    Calls Tryz.prog 91 #[.string S] w (fun e w' => e = .returned (U32 (crcN l)) ∧ Ext w w') := by
  have R := more_calls S l w hS hl
  go_enter Tryz.func91, Tryz.ntmps91
  go_wp2_with fail
  refine R.mono ?_
  rintro e w1 ⟨rfl, hE⟩
  have HE := Lib.hid hE
  clear hE R
  go_wp2_with fail
  go_ret
  exact ⟨by rw [crcN_cast]; rfl, HE.out⟩
end

section
def leB (x k : Nat) : UInt8 := UInt8.ofNat (x / 2 ^ (8 * k) % 256)
/-- four bytes, the lowest first -/
def le4 (x : Nat) : List UInt8 := (List.range 4).map (leB x)

set_option maxRecDepth 100000 in
set_option maxHeartbeats 800000 in
theorem little_calls (v : Value) (bs : List UInt8) (x : Nat) (w : World) (h : Row w v bs) (hx : x < 4294967296) (hl : bs.length ≤ 100000) :
    Calls Tryz.prog 125 #[v, u64 x, i64 4] w (RowPost w v (bs ++ le4 x)) := by
  obtain ⟨i0, hi, hz0, hz1, hz2⟩ := info_parts info5
  have HR := Lib.hid h
  have HL := Lib.hid hl
  have HX := Lib.hid hx
  clear h hl hx
  go_enter Tryz.func125, Tryz.ntmps125
  go_wp2_with fail
  go_loopw [0, 9] (fun u i wr => ∃ (k : Nat), k ≤ 4 ∧ i = i64 k ∧ Row wr u (bs ++ (List.range k).map (leB x)) ∧ Step w v u wr) (fun _ i _ => 4 - (intOf i).toNat)
  case atStart => exact ⟨0, by omega, rfl, by simpa using HR.out, Step.refl _ _⟩
  case round =>
    obtain ⟨k, hk, rfl, hR, hS⟩ := hrel
    have HR2 := Lib.hid hR
    have HS := Lib.hid hS
    clear hR hS
    by_cases hlt : k < 4
    · have hq := Lib.hid (show (x : Int) / 2 ^ (8 * k) % 256 = ((x / 2 ^ (8 * k) % 256 : Nat) : Int) by push_cast; rfl)
      have hlen : (bs ++ (List.range k).map (leB x)).length ≤ 100010 := by have := HL.out; simp; omega
      go_wp2_with (at_builtin; refine wpList_append_own_at _ rfl _ _ 144 rfl 0 5 i0 (.int .u8 0) 1 1 Tryz.underlying144 hi hz0 hz1 hz2 rfl (by decide) u0 (bs ++ (List.range k).map (leB x)).length _ rfl ((HR2.out).alloc _) ⟨wr.heap.size, 0, none⟩ 1 1 (Lib.byteCells [leB x k]) rfl rfl (news_byte (by omega) hq.out (Blk.at _ _ _ _ rfl)) (byte_one _) (by unfold maxLen; omega) (by omega) (Nat.zero_le _) ?_; intro v' w' ho hg hn hb)
      go_roundw
      case rel =>
        refine ⟨k + 1, by omega, by go_num, ?_, HS.out.trans (Step.grown (by (refine Mod.to_ext (S := []) ?_ (by simp); repeat (first | (with_reducible exact Mod.refl _ _) | (with_reducible assumption) | (with_reducible refine Mod.alloc ?_ _) | (with_reducible refine Mod.drew ?_) | (with_reducible refine Mod.drewN ?_ _)))) hg hb)⟩
        have e : bs ++ (List.range (k + 1)).map (leB x) = (bs ++ (List.range k).map (leB x)) ++ [leB x k] := by simp [List.range_succ]
        unfold Row
        rw [e, List.length_append]; simpa [Lib.byteCells] using ho
      case measure => simp [intOf]; omega
    · have hk4 : k = 4 := by omega
      subst hk4
      go_wp2_with fail
      go_ret
      exact ⟨u0, rfl, HR2.out, HS.out⟩

theorem put_calls (v : Value) (bs : List UInt8) (x : Nat) (w : World) (h : Row w v bs) (hx : x < 4294967296) (hl : bs.length ≤ 100000) :
    Calls Tryz.prog 111 #[v, .int .u32 x] w (RowPost w v (bs ++ le4 x)) := by
  have R := little_calls v bs x w h hx hl
  have hm : (x : Int) % 18446744073709551616 = x := by omega
  have hw : IntKind.u64.wrap (x : Int) = x := by simp [IntKind.wrap, IntKind.signed, IntKind.bits]; omega
  clear h
  go_enter Tryz.func111, Tryz.ntmps111
  go_wp2_with fail
  refine R.mono ?_
  rintro e w1 ⟨v', rfl, hR, hS⟩
  have HR := Lib.hid hR
  have HS := Lib.hid hS
  clear hR hS R
  go_wp2_with fail
  go_ret
  exact ⟨v', rfl, HR.out, HS.out⟩

/-- a text's frame -/
def frameL (body : List UInt8) : List UInt8 := le4 body.length ++ le4 (crcN (le4 body.length)) ++ body ++ le4 (crcN body)

theorem le4_len (x : Nat) : (le4 x).length = 4 := by simp [le4]

theorem Row.back {w : World} {v : Value} {bs : List UInt8} (h : Row w v bs) (h0 : bs ≠ []) : (convert 144 9 v).run Tryz.prog w = .ok (.string ⟨bs.toArray⟩) w := by
  obtain ⟨hl, hv⟩ := h
  have hpos : 0 < bs.length := List.length_pos_iff.2 h0
  obtain ⟨g, cap, cur, rfl, hb, hg, hn, hc, hs, ht⟩ : ∃ g cap cur, v = .slice (some ⟨g, 0, none⟩) bs.length cap ∧ 0 ≤ g ∧ w.heap[g]? = some (.cells cur 5 (0, 0)) ∧ bs.length ≤ cap ∧ cap ≤ maxLen ∧ cur.size = cap * 1 ∧ cur.toList.take (bs.length * 1) = Lib.byteCells bs := by
    rcases hv with ⟨_, h1⟩ | hv
    · omega
    · exact hv
  exact run_convert_bytes_back (P := Tryz.prog) w 144 9 5 ⟨g, 0, none⟩ cap bs Tryz.underlying144 Tryz.underlying5 Tryz.underlying9 (by
    intro j hj
    rw [addr_add, Nat.zero_add]
    have : (cur.toList.take (bs.length * 1))[j]? = (Lib.byteCells bs)[j]? := by rw [ht]
    rw [List.getElem?_take, if_pos (by omega)] at this
    simp only [World.cell?, hg]
    simp only [Option.isSome_none, Bool.false_eq_true, if_false]
    rw [← Array.getElem?_toList, this]
    simp [Lib.byteCells, hj])

theorem ownsRow_up {w : World} {base : Nat} {v : Value} {n : Nat} {xs : List Value} (h : w.ownsRow 0 5 1 v n xs) (hb : ∀ g, v.ownBlock = some g → base ≤ g) : w.ownsRow base 5 1 v n xs := by
  obtain ⟨h1, h2⟩ := h
  refine ⟨h1, ?_⟩
  rcases h2 with h2 | ⟨g, cap, cur, hv, hg, r⟩
  · exact .inl h2
  · exact .inr ⟨g, cap, cur, hv, hb g (by rw [hv]; rfl), r⟩

set_option maxRecDepth 100000 in
set_option maxHeartbeats 800000 in
theorem Put_calls (S : ByteArray) (l : List UInt8) (w : World) (hS : S.data.toList = l) (hl : l.length ≤ 10000) :
    Calls Tryz.prog 80 #[.string S] w (fun e w' => e = .returned (.tuple #[.string ⟨(frameL l).toArray⟩, i64 0]) ∧ Ext w w') := by
  obtain ⟨i0, hi, hz0, hz1, hz2⟩ := info_parts info5
  have hsz : S.size = l.length := by have := congrArg List.length hS; simpa using this
  have q1 : ¬ (l.length : Int) > 16384 := by omega
  have q2 : (l.length : Int) % 4294967296 = l.length := by omega
  have q3 : ¬ 16384 < (l.length : Int) := by omega
  have R1 := put_calls (.slice none 0 0) [] l.length w (Row.nil w) (by omega) (by simp)
  have HS := Lib.hid hS
  have HL := Lib.hid hl
  clear hS hl
  go_enter Tryz.func80, Tryz.ntmps80
  go_wp2_with fail
  refine R1.mono ?_
  rintro e w1 ⟨v1, rfl, hR1, hS1⟩
  have hb1 := hR1.back (by intro e; have := congrArg List.length e; simp [le4_len] at this)
  have HR1 := Lib.hid hR1
  have HS1 := Lib.hid hS1
  clear hR1 hS1 R1
  go_wp2_with fail
  refine (crc_calls _ ([] ++ le4 l.length) w1 rfl (by simp [le4_len])).mono ?_
  rintro e w2 ⟨rfl, hE2⟩
  have R2 := put_calls v1 ([] ++ le4 l.length) (crcN ([] ++ le4 l.length)) w2 (HR1.out.ext hE2) (crcN_lt _) (by simp [le4_len])
  have HE2 := Lib.hid hE2
  clear hE2 hb1
  go_wp2_with fail
  refine R2.mono ?_
  rintro e w3 ⟨v3, rfl, hR3, hS3⟩
  have HE3 := Lib.hid (show Ext w w3 ∧ ∀ g, v3.ownBlock = some g → w.heap.size ≤ g from by
    have h13 := (HS1.out.ext HE2.out).trans hS3
    refine ⟨h13.1.to_ext (by simp [Value.ownBlock]), ?_⟩
    intro g hg
    rcases h13.2 with e | ⟨k, e, hk⟩
    · rw [e] at hg; cases hg
    · rw [e] at hg; cases hg; exact hk)
  have hown := ownsRow_up hR3 HE3.out.2
  have HO := Lib.hid hown
  have hlen3 : (([] ++ le4 l.length) ++ le4 (crcN ([] ++ le4 l.length))).length = 8 := by simp [le4_len]
  have HL3 := Lib.hid hlen3
  clear hR3 hS3 R2 hown hlen3
  have hszw : w.heap.size ≤ w3.heap.size := HE3.out.1.size
  go_wp2_with (at_builtin; refine Lib.wpList_append_own_string _ rfl _ _ 144 9 rfl w.heap.size 5 i0 Tryz.underlying144 Tryz.underlying9 hi hz0 hz1 hz2 v3 _ _ rfl HO.out S rfl (by rw [HL3.out]; have := HL.out; unfold maxLen; omega) (by rw [HL3.out]; have := HL.out; omega) hszw ?_; intro v4 w4 ho4 hg4 hn4)
  have hR4 : Row w4 v4 ((([] ++ le4 l.length) ++ le4 (crcN ([] ++ le4 l.length))) ++ l) := by
    unfold Row
    have e : Lib.strCells S = Lib.byteCells l := by unfold Lib.strCells Lib.byteCells; rw [HS.out]
    have h1 := ownsRow_base ho4 (Nat.zero_le _)
    rw [e, hsz] at h1
    rw [List.length_append]
    simpa only [Lib.byteCells, List.map_append] using h1
  have hE4 : Ext w w4 := by
    have M : Mod [] w w4 := Mod.grown (Mod.of_ext HE3.out.1) hg4 (by intro k hk; right; exact HE3.out.2 k hk)
    exact M.to_ext (by simp)
  have hb4 : ∀ g, v4.ownBlock = some g → w.heap.size ≤ g := fun g hg => (ho4.lt g hg).1
  have HR4 := Lib.hid hR4
  have HE4 := Lib.hid hE4
  have HB4 := Lib.hid hb4
  clear hR4 hE4 hb4 ho4 hg4 hn4
  refine (crc_calls S l w4 HS.out (by have := HL.out; omega)).mono ?_
  rintro e w5 ⟨rfl, hE5⟩
  have R5 := put_calls v4 _ (crcN l) w5 (HR4.out.ext hE5) (crcN_lt _) (by rw [List.length_append, HL3.out]; have := HL.out; omega)
  have HE5 := Lib.hid hE5
  clear hE5
  go_wp2_with fail
  refine R5.mono ?_
  rintro e w6 ⟨v6, rfl, hR6, hS6⟩
  have hb6 := hR6.back (by intro e; have := congrArg List.length e; simp [le4_len] at this)
  have HS6 := Lib.hid hS6
  clear hR6 hS6 R5
  go_wp2_with fail
  go_ret2
  refine ⟨?_, ?_⟩
  · simp [frameL]
  · have M : Mod [] w w6 := (Mod.of_ext (HE4.out.trans HE5.out)).step HS6.out.1 (by intro x hx; right; exact HB4.out x (by simpa using hx))
    exact M.to_ext (by simp)
end
end Go.Proofs.YtchmhkdnegngdaaGreat
