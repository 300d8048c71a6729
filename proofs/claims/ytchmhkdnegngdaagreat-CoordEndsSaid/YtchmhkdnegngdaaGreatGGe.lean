/- frame: getLittle, get, Next, Whole: what they read of a frame that Put made. frame: Next, Whole; msg: Of: of what Data made. msg: Read once more, and that what it hands back is new. msg: Of, of what Data made. -/
import Derived.Test.YtchmhkdnegngdaaGreatGCr
import Derived.Test.YtchmhkdnegngdaaGreatGRg
import Derived.Test.YtchmhkdnegngdaaGreatGDt
import Derived.Test.YtchmhkdnegngdaaGreatGRx
import Derived.Lib.Strings
set_option linter.unusedVariables false
set_option linter.unusedSimpArgs false
namespace Go.Proofs.YtchmhkdnegngdaaGreat
open Go.RowKit

section
theorem leB_toNat (x k : Nat) : (leB x k).toNat = x / 2 ^ (8 * k) % 256 := by
  unfold leB
  rw [UInt8.toNat_ofNat']
  omega

theorem le4_get {S : ByteArray} {x : Nat} (hS : S.data.toList = le4 x) {k : Nat} (hk : k < 4) : ∃ h : k < S.size, S[k].toNat = x / 2 ^ (8 * k) % 256 := by
  have hsz : S.size = 4 := by have := congrArg List.length hS; simpa [le4] using this
  refine ⟨by omega, ?_⟩
  have h1 : S.data.toList[k]? = (le4 x)[k]? := by rw [hS]
  have h2 : S.data.toList[k]? = some S[k] := by
    rw [List.getElem?_eq_getElem (by simpa using (by omega : k < S.size))]; rfl
  rw [h2] at h1
  have h3 : (le4 x)[k]? = some (leB x k) := by simp [le4, hk]
  rw [h3] at h1
  injection h1 with h1
  rw [h1, leB_toNat]

theorem step8 {a b k : Nat} (ha : a < 2 ^ (8 * k)) (hk : k ≤ 3) (hb : b < 256) :
    bits BinOp.or IntKind.u64 (a : Int) (IntKind.u64.wrap (IntKind.u64.wrap (b : Int) * 2 ^ (8 * k))) = ((a + b * 2 ^ (8 * k) : Nat) : Int) := by
  have hp : (2 : Nat) ^ (8 * k) ≤ 16777216 := by
    have : (2 : Nat) ^ (8 * k) ≤ 2 ^ 24 := Nat.pow_le_pow_right (by decide) (by omega)
    simpa using this
  rw [wrap_u64 (by omega)]
  have e2 : (b : Int) * 2 ^ (8 * k) = ((b * 2 ^ (8 * k) : Nat) : Int) := by push_cast; rfl
  have hlt : b * 2 ^ (8 * k) ≤ 255 * 16777216 := Nat.mul_le_mul (by omega) hp
  rw [e2, wrap_u64 (by omega), bits_or_u64 _ _ (by omega) (by omega)]
  congr 1
  rw [Nat.or_comm, Nat.mul_comm, ← Nat.two_pow_add_eq_or_of_lt ha, Nat.add_comm]

theorem acc8_0 {x b : Nat} (hb : b = x / 2 ^ (8 * 0) % 256) : (Value.int IntKind.u64 (bits BinOp.or IntKind.u64 0 (IntKind.u64.wrap (IntKind.u64.wrap (b : Int))))) = u64 ((x % 2 ^ (8 * 1) : Nat) : Int) := by
  have h := step8 (a := 0) (b := b) (k := 0) (by decide) (by omega) (by omega)
  simp only [Nat.mul_zero, Int.pow_zero, Int.mul_one, Nat.pow_zero, Nat.mul_one, Nat.zero_add] at h
  show Value.int _ _ = Value.int _ _
  rw [show (0 : Int) = ((0 : Nat) : Int) from rfl, h]
  congr 1
  simp at hb ⊢
  omega
theorem acc8_1 {x b : Nat} (hb : b = x / 2 ^ (8 * 1) % 256) : (Value.int IntKind.u64 (bits BinOp.or IntKind.u64 ((x : Int) % 256) (IntKind.u64.wrap (IntKind.u64.wrap (b : Int) * 256)))) = u64 ((x % 2 ^ (8 * 2) : Nat) : Int) := by
  have h := step8 (a := x % 256) (b := b) (k := 1) (Nat.mod_lt _ (by decide)) (by omega) (by omega)
  show Value.int _ _ = Value.int _ _
  rw [show (x : Int) % 256 = ((x % 256 : Nat) : Int) by omega, show (256 : Int) = 2 ^ (8 * 1) from rfl, h]
  congr 1
  simp at hb ⊢
  omega
theorem acc8_2 {x b : Nat} (hb : b = x / 2 ^ (8 * 2) % 256) : (Value.int IntKind.u64 (bits BinOp.or IntKind.u64 ((x : Int) % 65536) (IntKind.u64.wrap (IntKind.u64.wrap (b : Int) * 65536)))) = u64 ((x % 2 ^ (8 * 3) : Nat) : Int) := by
  have h := step8 (a := x % 65536) (b := b) (k := 2) (Nat.mod_lt _ (by decide)) (by omega) (by omega)
  show Value.int _ _ = Value.int _ _
  rw [show (x : Int) % 65536 = ((x % 65536 : Nat) : Int) by omega, show (65536 : Int) = 2 ^ (8 * 2) from rfl, h]
  congr 1
  simp at hb ⊢
  omega
theorem acc8_3 {x b : Nat} (hb : b = x / 2 ^ (8 * 3) % 256) : (Value.int IntKind.u64 (bits BinOp.or IntKind.u64 ((x : Int) % 16777216) (IntKind.u64.wrap (IntKind.u64.wrap (b : Int) * 16777216)))) = u64 ((x % 2 ^ (8 * 4) : Nat) : Int) := by
  have h := step8 (a := x % 16777216) (b := b) (k := 3) (Nat.mod_lt _ (by decide)) (by omega) (by omega)
  show Value.int _ _ = Value.int _ _
  rw [show (x : Int) % 16777216 = ((x % 16777216 : Nat) : Int) by omega, show (16777216 : Int) = 2 ^ (8 * 3) from rfl, h]
  congr 1
  simp at hb ⊢
  omega

set_option maxRecDepth 100000 in
set_option maxHeartbeats 800000 in
theorem getLittle_calls (S : ByteArray) (x : Nat) (w : World) (hS : S.data.toList = le4 x) (hx : x < 4294967296) :
    Calls Tryz.prog 118 #[.string S, i64 4] w (fun e w' => e = .returned (u64 x) ∧ w = w') := by
  have hsz : S.size = 4 := by have := congrArg List.length hS; simpa [le4] using this
  have HS := Lib.hid hS
  have HZ := Lib.hid hsz
  have h4 : 4 ≤ S.size := by omega
  clear hS hsz
  go_enter Tryz.func118, Tryz.ntmps118
  go_wp2_with fail
  go_loop [4, 7] (fun a i => ∃ k : Nat, k ≤ 4 ∧ i = i64 k ∧ a = u64 ((x % 2 ^ (8 * k) : Nat))) (fun _ i => 4 - (intOf i).toNat)
  case atStart => exact ⟨0, by omega, rfl, by simp [Nat.mod_one]⟩
  case round =>
    obtain ⟨k, hk, rfl, rfl⟩ := hrel
    by_cases hlt : k < 4
    · obtain ⟨hks, hb⟩ := le4_get HS.out hlt
      have HB := Lib.hid hb
      clear hb
      obtain rfl | rfl | rfl | rfl : k = 0 ∨ k = 1 ∨ k = 2 ∨ k = 3 := by omega
      · go_wp2_with fail
        exact ⟨⟨1, by omega, rfl, acc8_0 HB.out⟩, by simp [intOf]⟩
      · go_wp2_with fail
        exact ⟨⟨2, by omega, rfl, acc8_1 HB.out⟩, by simp [intOf]⟩
      · go_wp2_with fail
        exact ⟨⟨3, by omega, rfl, acc8_2 HB.out⟩, by simp [intOf]⟩
      · go_wp2_with fail
        exact ⟨⟨4, by omega, rfl, acc8_3 HB.out⟩, by simp [intOf]⟩
    · obtain rfl : k = 4 := by omega
      go_wp2_with fail
      go_ret
      refine ⟨?_, rfl⟩
      rw [show ((x : Int) % 4294967296) = x by omega]; rfl

theorem get_calls (b : ByteArray) (at_ x : Nat) (w : World) (hb : (b.extract at_ (at_ + 4)).data.toList = le4 x) (hx : x < 4294967296) (hs : at_ + 4 ≤ b.size) (hsz : b.size ≤ 100000) :
    Calls Tryz.prog 90 #[.string b, i64 at_] w (fun e w' => e = .returned (.int .u32 x) ∧ w = w') := by
  have R := getLittle_calls (b.extract at_ (at_ + 4)) x w hb hx
  clear hb
  go_enter Tryz.func90, Tryz.ntmps90
  go_wp2_with fail
  refine R.mono ?_
  rintro e w1 ⟨rfl, rfl⟩
  clear R
  go_wp2_with fail
  go_ret
  exact ⟨by first | rfl | (rw [show ((x : Int) % 4294967296) = x by omega]; rfl), rfl⟩
end

section
theorem frame_parts {S : ByteArray} {body : List UInt8} (hS : S.data.toList = frameL body) :
    S.size = body.length + 12 ∧ (S.extract 0 4).data.toList = le4 body.length ∧ (S.extract 4 8).data.toList = le4 (crcN (le4 body.length)) ∧
    (S.extract 8 (8 + body.length)).data.toList = body ∧ (S.extract (8 + body.length) (8 + body.length + 4)).data.toList = le4 (crcN body) := by
  have hl : ∀ x, (le4 x).length = 4 := le4_len
  refine ⟨?_, ?_, ?_, ?_, ?_⟩
  · have := congrArg List.length hS
    simp [frameL, hl] at this
    have h2 : S.data.size = S.size := rfl
    omega
  · rw [Lib.extract_data, hS, frameL]
    rw [List.drop_zero, List.append_assoc, List.append_assoc, List.take_append_of_le_length (by rw [hl]; omega), List.take_of_length_le (by rw [hl]; omega)]
  · rw [Lib.extract_data, hS, frameL]
    rw [List.append_assoc, List.append_assoc, List.drop_append_of_le_length (by rw [hl]; omega), List.drop_of_length_le (by rw [hl]; omega), List.nil_append, List.take_append_of_le_length (by rw [hl]; omega), List.take_of_length_le (by rw [hl]; omega)]
  · rw [Lib.extract_data, hS, frameL]
    rw [List.append_assoc (le4 _ ++ le4 _), List.drop_append_of_le_length (by simp [hl]), List.drop_of_length_le (by simp [hl]), List.nil_append, List.take_append_of_le_length (by omega), List.take_of_length_le (by omega)]
  · rw [Lib.extract_data, hS, frameL]
    rw [List.drop_append_of_le_length (by simp [hl]; omega), List.drop_of_length_le (by simp [hl]; omega), List.nil_append, List.take_of_length_le (by rw [hl]; omega)]

set_option maxRecDepth 100000 in
set_option maxHeartbeats 1600000 in
theorem next_calls (S : ByteArray) (body : List UInt8) (w : World) (hS : S.data.toList = frameL body) (hl : body.length ≤ 1000) :
    Calls Tryz.prog 69 #[.string S, i64 0] w (fun e w' => e = .returned (.tuple #[.string ⟨body.toArray⟩, i64 S.size, i64 0]) ∧ Ext w w') := by
  obtain ⟨hsz, h0, h4, h8, h9⟩ := frame_parts hS
  have hbody : S.extract 8 (8 + body.length) = ⟨body.toArray⟩ := by
    have : (S.extract 8 (8 + body.length)).data = body.toArray := by
      have h := congrArg List.toArray h8
      rwa [Array.toArray_toList] at h
    show (⟨(S.extract 8 (8 + body.length)).data⟩ : ByteArray) = _
    rw [this]
  have hz1 : (12 : Int) ≤ S.size := by omega
  have hz2 : (S.size : Int) ≤ 1012 := by omega
  have hz3 : 12 ≤ S.size := by omega
  have hz4 : (4 : Int) ≤ S.size := by omega
  have G4 : ∀ W, Calls Tryz.prog 90 #[.string S, i64 4] W (fun e w' => e = .returned (.int .u32 (crcN (le4 body.length))) ∧ W = w') := fun W => get_calls S 4 _ W h4 (crcN_lt _) (by omega) (by omega)
  have G0 : ∀ W, Calls Tryz.prog 90 #[.string S, i64 0] W (fun e w' => e = .returned (.int .u32 (body.length : Nat)) ∧ W = w') := fun W => get_calls S 0 _ W h0 (by omega) (by omega) (by omega)
  have C0 : ∀ W, Calls Tryz.prog 91 #[.string (S.extract 0 4)] W (fun e w' => e = .returned (U32 (crcN (le4 body.length))) ∧ Ext W w') := fun W => crc_calls _ _ W h0 (by rw [le4_len]; omega)
  have C8 : ∀ W, Calls Tryz.prog 91 #[.string (S.extract 8 (8 + body.length))] W (fun e w' => e = .returned (U32 (crcN body)) ∧ Ext W w') := fun W => crc_calls _ _ W h8 (by omega)
  have G8 : ∀ W, Calls Tryz.prog 90 #[.string S, i64 ((8 + body.length : Nat) : Int)] W (fun e w' => e = .returned (.int .u32 (crcN body)) ∧ W = w') := fun W => get_calls S (8 + body.length) _ W h9 (crcN_lt _) (by omega) (by omega)
  have HSZ := Lib.hid hsz
  have HBODY := Lib.hid hbody
  have hn1 : (body.length : Int) ≤ 1000 := by omega
  have hn2 : (S.size : Int) - 8 = body.length + 4 := by omega
  have HN2 := Lib.hid hn2
  have hg0 := Lib.hid G0
  have hg4 := Lib.hid G4
  have hg8 := Lib.hid G8
  have hc0 := Lib.hid C0
  have hc8 := Lib.hid C8
  clear hsz hbody hn2 h0 h4 h8 h9 hS G0 G4 G8 C0 C8
  generalize hn : body.length = n at *
  have HN := Lib.hid hn
  clear hn
  go_enter Tryz.func69, Tryz.ntmps69
  go_wp2_with fail
  have hw4 : IntKind.i64.wrap 4 = 4 := by decide
  go_region_held3 (fun _ => True) (exact True.intro) ((first
    | ((with_reducible refine (hg4.out _).mono ?_); rintro e w' ⟨rfl, rfl⟩)
    | ((with_reducible refine (hc0.out _).mono ?_); rintro e w1 ⟨rfl, hX1⟩)))
  all_goals
    have HX1 := Lib.hid hX1
    clear hX1
    go_wp2_with fail
    refine (hg0.out _).mono ?_
    rintro e w2 ⟨rfl, rfl⟩
    have hw3 : (0 : Int) ≤ 8 + n := by omega
    have hz5 : (8 : Int) + n ≤ S.size := by have := HSZ.out; omega
    have hz6 : (n : Int) + 4 ≤ S.size - 8 := by have := HSZ.out; omega
    have hz7 : (8 : Int) ≤ 8 + n := by omega
    have hw1 : IntKind.i64.wrap (8 + (n : Int)) = 8 + n := by simp [IntKind.wrap, IntKind.signed, IntKind.bits]; omega
    have hw2 : (8 + (n : Int)).toNat = 8 + n := by omega
    have hg := hg8.out
    rw [show (((8 + n : Nat)) : Int) = 8 + (n : Int) from by omega] at hg
    have HG8 := Lib.hid hg
    clear hg
    go_wp2_with fail
    go_region_held3 (fun _ => True) (exact True.intro) ((first
      | ((with_reducible refine (HG8.out _).mono ?_); rintro e w' ⟨rfl, rfl⟩)
      | ((with_reducible refine (hc8.out _).mono ?_); rintro e w3 ⟨rfl, hX3⟩)))
    all_goals
      have HX3 := Lib.hid hX3
      clear hX3
      go_wp2_with fail
      go_ret3
      refine ⟨?_, ((Mod.of_ext (S := []) HX1.out).undrew'.trans (Mod.of_ext HX3.out).undrew').to_ext (by simp)⟩
      have hs := HSZ.out
      show Ending.returned (.tuple #[.string (S.extract 8 (8 + n)), i64 (8 + n + 4), i64 0]) = _
      rw [HBODY.out, show (8 : Int) + n + 4 = S.size by omega]

set_option maxRecDepth 100000 in
theorem whole_calls (S : ByteArray) (body : List UInt8) (w : World) (hS : S.data.toList = frameL body) (hl : body.length ≤ 1000) :
    Calls Tryz.prog 55 #[.string S] w (fun e w' => e = .returned (.tuple #[.string ⟨body.toArray⟩, i64 0]) ∧ Ext w w') := by
  have R := next_calls S body w hS hl
  clear hS
  go_enter Tryz.func55, Tryz.ntmps55
  go_wp2_with fail
  refine R.mono ?_
  rintro e w1 ⟨rfl, hE⟩
  have HE := Lib.hid hE
  clear hE R
  go_wp2_with fail
  go_ret2
  exact ⟨rfl, HE.out⟩

theorem results_cell_tmp_row {P : Program} {fn : Func} {q p : Tmp} {ty : TypeId} (h : fn.results = #[.cell p ty, .tmp q]) (tmps : Array Value) (w : World) (g : Nat) (t : TypeId) (cs : Array Value) (fr : Nat × Nat) (d : TypeDesc)
    (hp : tmps.getD p undef = .pointer (some ⟨g, 0, none⟩)) (hg : w.heap[g]? = some (.cells cs t fr))
    (hu : P.underlying ty = some d) (hd : (match d with | .struct _ | .array _ _ => true | _ => false) = true) (hi : (P.info? ty).map (·.size) = some cs.size) :
    (results fn tmps).run P w = .ok (.tuple #[.agg cs, tmps.getD q undef]) w := by
  have hp' : tmps[p]?.getD undef = .pointer (some ⟨g, 0, none⟩) := by simpa using hp
  simp [results, h, hp', asAddr, run_loadVar_row w g t ty cs fr d hg hu hd hi]
end

section
def ReadOwn (m : Ms) (w : World) (e : Ending) (w' : World) : Prop :=
  ∃ o, e = .returned (.tuple #[.agg (m.cells o).toArray, i64 0]) ∧ Sl w' o (ints m.owners) ∧ (∀ q, o.ownBlock = some q → w.heap.size ≤ q) ∧ Ext w w'

set_option maxRecDepth 100000 in
set_option maxHeartbeats 800000 in
theorem Read_own (S : ByteArray) (m : Ms) (w : World) (hm : m.ok) (hs : S.data.toList = m.enc) (hSz : S.size ≤ 100000) :
    Calls Tryz.prog 56 #[.string S] w (ReadOwn m w) := by
  have hmf : ∀ (fn : Fn) (first cap : Array Value) (w : World), (Instr.makeFunc fn first cap).run Tryz.prog w = .ok (.func fn first cap) w := fun _ _ _ _ => rfl
  go_enter Tryz.func56, Tryz.ntmps56
  go_wp2_with fail
  refine (Of_calls S _).mono ?_
  rintro e w' ⟨rfl, rfl⟩
  go_wp2_with fail
  have hE5 : Ext w (((((w.alloc zmsg).alloc zmsg).alloc (.cells #[.string S, i64 0, i64 0] 156)).alloc (.cells #[.pointer (some ⟨w.heap.size + 1 + 1, 0, none⟩)] 134)).alloc (.cells #[.pointer (some ⟨w.heap.size + 1 + 1 + 1, 0, none⟩)] 130)) := by (refine Mod.to_ext (S := []) ?_ (by simp); repeat (first | (with_reducible exact Mod.refl _ _) | (with_reducible assumption) | (with_reducible refine Mod.alloc ?_ _) | (with_reducible refine Mod.drew ?_) | (with_reducible refine Mod.drewN ?_ _)))
  have b0 : Blk (((((w.alloc zmsg).alloc zmsg).alloc (.cells #[.string S, i64 0, i64 0] 156)).alloc (.cells #[.pointer (some ⟨w.heap.size + 1 + 1, 0, none⟩)] 134)).alloc (.cells #[.pointer (some ⟨w.heap.size + 1 + 1 + 1, 0, none⟩)] 130)) w.heap.size (mcells 0 0 0 0 0 0 (.slice none 0 0) (.slice none 0 0)) 40 := ((((Blk.new w _ 40).old _).old _).old _).old _
  have b1 : Blk (((((w.alloc zmsg).alloc zmsg).alloc (.cells #[.string S, i64 0, i64 0] 156)).alloc (.cells #[.pointer (some ⟨w.heap.size + 1 + 1, 0, none⟩)] 134)).alloc (.cells #[.pointer (some ⟨w.heap.size + 1 + 1 + 1, 0, none⟩)] 130)) (w.heap.size + 1) (mcells 0 0 0 0 0 0 (.slice none 0 0) (.slice none 0 0)) 40 := (((Blk.at _ _ 40 _ (by simp)).old _).old _).old _
  have b2 : Blk (((((w.alloc zmsg).alloc zmsg).alloc (.cells #[.string S, i64 0, i64 0] 156)).alloc (.cells #[.pointer (some ⟨w.heap.size + 1 + 1, 0, none⟩)] 134)).alloc (.cells #[.pointer (some ⟨w.heap.size + 1 + 1 + 1, 0, none⟩)] 130)) (w.heap.size + 1 + 1) [.string S, i64 0, i64 0] 156 := ((Blk.at _ _ 156 _ (by simp)).old _).old _
  have b3 : Blk (((((w.alloc zmsg).alloc zmsg).alloc (.cells #[.string S, i64 0, i64 0] 156)).alloc (.cells #[.pointer (some ⟨w.heap.size + 1 + 1, 0, none⟩)] 134)).alloc (.cells #[.pointer (some ⟨w.heap.size + 1 + 1 + 1, 0, none⟩)] 130)) (w.heap.size + 1 + 1 + 1) [.pointer (some ⟨w.heap.size + 1 + 1, 0, none⟩)] 134 := (Blk.at _ _ 134 _ (by simp)).old _
  have b4 : Blk (((((w.alloc zmsg).alloc zmsg).alloc (.cells #[.string S, i64 0, i64 0] 156)).alloc (.cells #[.pointer (some ⟨w.heap.size + 1 + 1, 0, none⟩)] 134)).alloc (.cells #[.pointer (some ⟨w.heap.size + 1 + 1 + 1, 0, none⟩)] 130)) (w.heap.size + 1 + 1 + 1 + 1) [.pointer (some ⟨w.heap.size + 1 + 1 + 1, 0, none⟩)] 130 := Blk.at _ _ 130 _ (by simp)
  have hsz5 : (((((w.alloc zmsg).alloc zmsg).alloc (.cells #[.string S, i64 0, i64 0] 156)).alloc (.cells #[.pointer (some ⟨w.heap.size + 1 + 1, 0, none⟩)] 134)).alloc (.cells #[.pointer (some ⟨w.heap.size + 1 + 1 + 1, 0, none⟩)] 130)).heap.size = w.heap.size + 5 := by simp
  simp only [zmsg, mcells] at hE5 b0 b1 b2 b3 b4 hsz5
  revert hE5 b0 b1 b2 b3 b4 hsz5
  generalize hN : w.heap.size = N
  generalize hW : World.alloc _ (.cells #[.pointer (some ⟨N + 1 + 1 + 1, 0, none⟩)] 130) = W5
  clear hW
  intro hE5 b0 b1 b2 b3 b4 hsz5
  have e6 : Ext W5 (W5.alloc (.cells #[i64 0] 23)) := by (refine Mod.to_ext (S := []) ?_ (by simp); repeat (first | (with_reducible exact Mod.refl _ _) | (with_reducible assumption) | (with_reducible refine Mod.alloc ?_ _) | (with_reducible refine Mod.drew ?_) | (with_reducible refine Mod.drewN ?_ _)))
  have b5 : Blk (W5.alloc (.cells #[i64 0] 23)) W5.heap.size [i64 0] 23 := Blk.new W5 [i64 0] 23
  have hS : StR (N + 1 + 1 + 1) (N + 1 + 1) S (W5.alloc (.cells #[i64 0] 23)) [N + 1 + 1 + 1, N + 1 + 1] (m.enc ++ []) := ⟨⟨[], b3.ext e6, ⟨b2.ext e6, by simpa using hs⟩, by omega⟩, rfl⟩
  have R1 := walk_r (N + 1 + 1 + 1) (N + 1 + 1) S hSz (N + 1) m (W5.alloc (.cells #[i64 0] 23)) _ [] hS (b1.ext e6) (by simp) hm
  have R2 := rclosure (N + 1 + 1 + 1 + 1) _ _ _ _ ((b4.ext e6).read.1 0) R1
  have R3 := safely_r _ _ W5 _ R2 (by
    rintro w' ⟨own', v, _, _, _, _, hM, _⟩
    exact b5.mod hM (by simp; omega))
  have H0 := Lib.hid b0
  have H4 := Lib.hid b4
  have HE5 := Lib.hid hE5
  have HE6 := Lib.hid e6
  clear R1 R2 hS e6 b5 b0 b1 b2 b3 b4 hE5
  refine R3.mono ?_
  rintro e w2 ⟨rfl, w1, ⟨own', v, hSt, hB, hSl, hSq, hM, hO⟩, rfl⟩
  obtain ⟨⟨pre, hr⟩, _⟩ := hSt
  have hl1 := hM.size
  simp only [World.size_alloc] at hl1
  have k0 := ((H0.out.ext HE6.out).mod hM (by simp; omega)).set_other ⟨W5.heap.size, 0, none⟩ (i64 0) (by simp; omega)
  have k1 := hB.set_other ⟨W5.heap.size, 0, none⟩ (i64 0) (by simp; omega)
  have k3 := hr.blk.set_other ⟨W5.heap.size, 0, none⟩ (i64 0) (by simp; omega)
  have k4 := ((H4.out.ext HE6.out).mod hM (by simp; omega)).set_other ⟨W5.heap.size, 0, none⟩ (i64 0) (by simp; omega)
  have ki : InIs (w1.setCell ⟨W5.heap.size, 0, none⟩ (i64 0)) (N + 1 + 1) S pre [] := ⟨hr.inn.1.set_other ⟨W5.heap.size, 0, none⟩ (i64 0) (by simp; omega), hr.inn.2⟩
  have hE7 : Ext w (w1.setCell ⟨W5.heap.size, 0, none⟩ (i64 0)) := by
    have m1 : Mod [] w w1 := ((Mod.of_ext HE5.out).ext HE6.out).step hM (by simp; omega)
    exact (m1.setCell (by right; simp; omega) _).to_ext (by simp)
  have HQN := Lib.hid (show ∀ q, v.ownBlock = some q → q ≠ N ∧ N ≤ q from by intro q hq; have := hSq q hq; simp at this; omega)
  have hSl2 : Sl (w1.setCell ⟨W5.heap.size, 0, none⟩ (i64 0)) v (ints m.owners) := hSl.set_other _ _ (by intro q hq; have := hSq q hq; simp at this; simp; omega)
  have hcs : (m.cells v).toArray.size = 22 ∧ (m.cells v).toArray.all (·.oneCell') = true := by
    have ho : v.oneCell' = true := by
      rcases hSl2 with ⟨_, e⟩ | ⟨_, b, off, cap, e, _⟩ <;> rw [e] <;> rfl
    exact cells_ok m v ho
  obtain ⟨C, hC⟩ : ∃ C, C = (m.cells v).toArray := ⟨_, rfl⟩
  rw [← hC] at hcs
  have hk1 : (w1.setCell ⟨W5.heap.size, 0, none⟩ (i64 0)).heap[N + 1]? = some (.cells C 40 (0, 0)) := by rw [hC]; exact k1
  generalize w1.setCell ⟨W5.heap.size, 0, none⟩ (i64 0) = W at *
  obtain ⟨c3, f3⟩ := k3.read
  obtain ⟨c4, f4⟩ := k4.read
  have K0 := Lib.hid k0
  have K1 := Lib.hid hk1
  have KI := Lib.hid ki
  have HE7 := Lib.hid hE7
  have HSl := Lib.hid hSl2
  have HC := Lib.hid hC
  have HCS := Lib.hid hcs
  clear k0 k1 hk1 k3 k4 ki hE7 hSl2 hC hcs hr hB hSl hM hO R3
  go_wp2_with fail
  refine (end_calls' (N + 1 + 1) S pre W KI.out hSz).mono ?_
  rintro e w3 ⟨rfl, hE8⟩
  have k0 := K0.out.ext hE8
  have hlt1 : N + 1 < W.heap.size := lt_of_block K1.out
  have k1 : w3.heap[N + 1]? = some (.cells C 40 (0, 0)) := (hE8.block _ hlt1).trans K1.out
  have K0' := Lib.hid (show w3.heap[N]? = some (.cells (mcells 0 0 0 0 0 0 (.slice none 0 0) (.slice none 0 0)).toArray 40 (0, 0)) from k0)
  have K1' := Lib.hid k1
  have HE8 := Lib.hid hE8
  have hi : (Tryz.prog.info? 40).map (·.size) = some C.size := by rw [HCS.out.1]; kernel_rfl
  have HI := Lib.hid hi
  have hr0 : (w3.setRow N C).heap[N]? = some (.cells C 40 (0, 0)) := setRow_heap w3 N _ C 40 (0, 0) k0
  have hld := run_loadVar_row (P := Tryz.prog) (w3.setRow N C) N 40 40 C (0, 0) _ hr0 Tryz.underlying40 rfl hi
  have HLD := Lib.hid hld
  clear k0 k1 hE8 c3 f3 c4 f4 hi hr0 hld
  go_wp2_with (first | (with_reducible refine wpList_load_row rfl 40 (.tmp 4) rfl (N + 1) rfl 40 C (0, 0) _ K1'.out Tryz.underlying40 rfl HI.out ?_) | (refine wpList_store_row rfl 40 (.tmp 2) (.tmp 27) rfl N C rfl rfl 40 _ K0'.out HI.out (by rw [HCS.out.1]; rfl) HCS.out.2 ?_))
  refine bodyPost_ret (v := .tuple #[.agg C, i64 0]) (by simp [results, Tryz.results56, HLD.out, asAddr]) rfl ?_
  unfold ReadOwn
  refine ⟨v, by rw [HC.out], ?_, fun q hq => by rw [hN]; exact (HQN.out q hq).2, ?_⟩
  · exact (HSl.out.ext HE8.out).mod (S := [N]) (Mod.setRow (Mod.refl _ _) (by simp) C) (by intro q hq; simpa using (HQN.out q hq).1)
  · have m1 : Mod [N] w w3 := (Mod.of_ext HE7.out).ext HE8.out
    exact (Mod.setRow m1 (by simp) C).to_ext (by simp; omega)
end

section
set_option maxRecDepth 100000 in
set_option maxHeartbeats 800000 in
theorem mof_calls (m : Ms) (w : World) (hm : m.ok) :
    Calls Tryz.prog 35 #[.string (dataS m)] w (ReadOwn m w) := by
  have e1 : Ext w (w.alloc zlit) := by (refine Mod.to_ext (S := []) ?_ (by simp); repeat (first | (with_reducible exact Mod.refl _ _) | (with_reducible assumption) | (with_reducible refine Mod.alloc ?_ _) | (with_reducible refine Mod.drew ?_) | (with_reducible refine Mod.drewN ?_ _)))
  have R := whole_calls (dataS m) m.enc (w.alloc zlit) (by simp [dataS]) (by have := enc_len m hm; omega)
  have G := Lib.hid (heap_alloc_new w zlit)
  have HE1 := Lib.hid e1
  clear e1
  go_enter Tryz.func35, Tryz.ntmps35
  go_wp2_with fail
  refine R.mono ?_
  rintro e w1 ⟨rfl, hE⟩
  have HE2 := Lib.hid (HE1.out.trans hE)
  have G1 := Lib.hid ((hE.block w.heap.size (lt_of_block G.out)).trans G.out)
  clear hE R G HE1
  go_wp2_with fail
  refine (Read_own ⟨m.enc.toArray⟩ m w1 hm rfl (by have := enc_len m hm; simp [ByteArray.size]; omega)).mono ?_
  intro e w2 q
  unfold ReadOwn at q
  obtain ⟨o, rfl, hsl, hsq, hE⟩ := q
  have hN1 := lt_of_block G1.out
  have HQ := Lib.hid hsq
  have HE12 := Lib.hid HE2.out.size
  have hcs := cells_ok m o hsl.one
  obtain ⟨C, hC⟩ : ∃ C, C = (m.cells o).toArray := ⟨_, rfl⟩
  rw [← hC] at hcs ⊢
  have hi : (Tryz.prog.info? 40).map (·.size) = some C.size := by rw [hcs.1]; kernel_rfl
  have G2 := Lib.hid ((hE.block w.heap.size (lt_of_block G1.out)).trans G1.out)
  have HE3 := Lib.hid (HE2.out.trans hE)
  have HI := Lib.hid hi
  have HC := Lib.hid hC
  have HCS := Lib.hid hcs
  have HSL := Lib.hid hsl
  clear hE hC hcs hi hsl hsq G1 HE2
  go_wp2_with (refine wpList_store_row rfl 40 (.tmp 2) (.tmp 17) rfl w.heap.size C rfl rfl 40 _ G2.out HI.out (by rw [HCS.out.1]; rfl) HCS.out.2 ?_)
  refine bodyPost_ret (results_cell_tmp_row rfl _ _ w.heap.size 40 C (0, 0) _ rfl (setRow_heap _ _ _ _ 40 (0, 0) G2.out) Tryz.underlying40 rfl HI.out) rfl ?_
  unfold ReadOwn
  have hz := HE12.out
  refine ⟨o, by rw [HC.out]; rfl, ?_, fun q hq => Nat.le_trans hz (HQ.out q hq), ?_⟩
  · exact HSL.out.mod (S := [w.heap.size]) (Mod.setRow (Mod.refl _ _) (by simp) C) (by intro q hq; have := HQ.out q hq; simp; omega)
  · exact ((Mod.of_ext (S := []) HE3.out).setRow (by right; omega) C).to_ext (by simp)
end
end Go.Proofs.YtchmhkdnegngdaaGreat
