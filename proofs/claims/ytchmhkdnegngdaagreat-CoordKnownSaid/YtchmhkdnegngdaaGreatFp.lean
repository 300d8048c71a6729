/- frame: putLittle, put, Put. -/
import Derived.Lib.AppendStr
import Derived.Test.YtchmhkdnegngdaaGreatCr
set_option linter.unusedVariables false
set_option linter.unusedSimpArgs false
namespace Go.Proofs.YtchmhkdnegngdaaGreat
open Go.RowKit


def leB (x k : Nat) : UInt8 := UInt8.ofNat (x / 2 ^ (8 * k) % 256)
/-- four bytes, the lowest first -/
def le4 (x : Nat) : List UInt8 := (List.range 4).map (leB x)

set_option maxRecDepth 100000 in
set_option maxHeartbeats 800000 in
theorem little_calls (v : Value) (bs : List UInt8) (x : Nat) (w : World) (h : Row w v bs) (hx : x < 4294967296) (hl : bs.length ≤ 100000) :
    Calls Tryz.prog 125 #[v, u64 x, i64 4] w (RowPost w v (bs ++ le4 x)) := by
  obtain ⟨i0, hi, hz0, hz1, hz2⟩ := info_parts info5
  have HR := Lib.hid h
  have HL := Lib.hid hl
  have HX := Lib.hid hx
  clear h hl hx
  go_enter Tryz.func125, Tryz.ntmps125
  go_wp2_with fail
  go_loopw [0, 9] (fun u i wr => ∃ (k : Nat), k ≤ 4 ∧ i = i64 k ∧ Row wr u (bs ++ (List.range k).map (leB x)) ∧ Step w v u wr) (fun _ i _ => 4 - (intOf i).toNat)
  case atStart => exact ⟨0, by omega, rfl, by simpa using HR.out, Step.refl _ _⟩
  case round =>
    obtain ⟨k, hk, rfl, hR, hS⟩ := hrel
    have HR2 := Lib.hid hR
    have HS := Lib.hid hS
    clear hR hS
    by_cases hlt : k < 4
    · have hq := Lib.hid (show (x : Int) / 2 ^ (8 * k) % 256 = ((x / 2 ^ (8 * k) % 256 : Nat) : Int) by push_cast; rfl)
      have hlen : (bs ++ (List.range k).map (leB x)).length ≤ 100010 := by have := HL.out; simp; omega
      go_wp2_with (at_builtin; refine wpList_append_own_at _ rfl _ _ 144 rfl 0 5 i0 (.int .u8 0) 1 1 Tryz.underlying144 hi hz0 hz1 hz2 rfl (by decide) u0 (bs ++ (List.range k).map (leB x)).length _ rfl ((HR2.out).alloc _) ⟨wr.heap.size, 0, none⟩ 1 1 (Lib.byteCells [leB x k]) rfl rfl (news_byte (by omega) hq.out (Blk.at _ _ _ _ rfl)) (byte_one _) (by unfold maxLen; omega) (by omega) (Nat.zero_le _) ?_; intro v' w' ho hg hn hb)
      go_roundw
      case rel =>
        refine ⟨k + 1, by omega, by go_num, ?_, HS.out.trans (Step.grown (by (refine Mod.to_ext (S := []) ?_ (by simp); repeat (first | (with_reducible exact Mod.refl _ _) | (with_reducible assumption) | (with_reducible refine Mod.alloc ?_ _) | (with_reducible refine Mod.drew ?_) | (with_reducible refine Mod.drewN ?_ _)))) hg hb)⟩
        have e : bs ++ (List.range (k + 1)).map (leB x) = (bs ++ (List.range k).map (leB x)) ++ [leB x k] := by simp [List.range_succ]
        unfold Row
        rw [e, List.length_append]; simpa [Lib.byteCells] using ho
      case measure => simp [intOf]; omega
    · have hk4 : k = 4 := by omega
      subst hk4
      go_wp2_with fail
      go_ret
      exact ⟨u0, rfl, HR2.out, HS.out⟩

theorem put_calls (v : Value) (bs : List UInt8) (x : Nat) (w : World) (h : Row w v bs) (hx : x < 4294967296) (hl : bs.length ≤ 100000) :
    Calls Tryz.prog 111 #[v, .int .u32 x] w (RowPost w v (bs ++ le4 x)) := by
  have R := little_calls v bs x w h hx hl
  have hm : (x : Int) % 18446744073709551616 = x := by omega
  have hw : IntKind.u64.wrap (x : Int) = x := by simp [IntKind.wrap, IntKind.signed, IntKind.bits]; omega
  clear h
  go_enter Tryz.func111, Tryz.ntmps111
  go_wp2_with fail
  refine R.mono ?_
  rintro e w1 ⟨v', rfl, hR, hS⟩
  have HR := Lib.hid hR
  have HS := Lib.hid hS
  clear hR hS R
  go_wp2_with fail
  go_ret
  exact ⟨v', rfl, HR.out, HS.out⟩

/-- a text's frame -/
def frameL (body : List UInt8) : List UInt8 := le4 body.length ++ le4 (crcN (le4 body.length)) ++ body ++ le4 (crcN body)

theorem le4_len (x : Nat) : (le4 x).length = 4 := by simp [le4]

theorem Row.back {w : World} {v : Value} {bs : List UInt8} (h : Row w v bs) (h0 : bs ≠ []) : (convert 144 9 v).run Tryz.prog w = .ok (.string ⟨bs.toArray⟩) w := by
  obtain ⟨hl, hv⟩ := h
  have hpos : 0 < bs.length := List.length_pos_iff.2 h0
  obtain ⟨g, cap, cur, rfl, hb, hg, hn, hc, hs, ht⟩ : ∃ g cap cur, v = .slice (some ⟨g, 0, none⟩) bs.length cap ∧ 0 ≤ g ∧ w.heap[g]? = some (.cells cur 5 (0, 0)) ∧ bs.length ≤ cap ∧ cap ≤ maxLen ∧ cur.size = cap * 1 ∧ cur.toList.take (bs.length * 1) = Lib.byteCells bs := by
    rcases hv with ⟨_, h1⟩ | hv
    · omega
    · exact hv
  exact run_convert_bytes_back (P := Tryz.prog) w 144 9 5 ⟨g, 0, none⟩ cap bs Tryz.underlying144 Tryz.underlying5 Tryz.underlying9 (by
    intro j hj
    rw [addr_add, Nat.zero_add]
    have : (cur.toList.take (bs.length * 1))[j]? = (Lib.byteCells bs)[j]? := by rw [ht]
    rw [List.getElem?_take, if_pos (by omega)] at this
    simp only [World.cell?, hg]
    simp only [Option.isSome_none, Bool.false_eq_true, if_false]
    rw [← Array.getElem?_toList, this]
    simp [Lib.byteCells, hj])

theorem ownsRow_up {w : World} {base : Nat} {v : Value} {n : Nat} {xs : List Value} (h : w.ownsRow 0 5 1 v n xs) (hb : ∀ g, v.ownBlock = some g → base ≤ g) : w.ownsRow base 5 1 v n xs := by
  obtain ⟨h1, h2⟩ := h
  refine ⟨h1, ?_⟩
  rcases h2 with h2 | ⟨g, cap, cur, hv, hg, r⟩
  · exact .inl h2
  · exact .inr ⟨g, cap, cur, hv, hb g (by rw [hv]; rfl), r⟩

set_option maxRecDepth 100000 in
set_option maxHeartbeats 800000 in
theorem Put_calls (S : ByteArray) (l : List UInt8) (w : World) (hS : S.data.toList = l) (hl : l.length ≤ 10000) :
    Calls Tryz.prog 80 #[.string S] w (fun e w' => e = .returned (.tuple #[.string ⟨(frameL l).toArray⟩, i64 0]) ∧ Ext w w') := by
  obtain ⟨i0, hi, hz0, hz1, hz2⟩ := info_parts info5
  have hsz : S.size = l.length := by have := congrArg List.length hS; simpa using this
  have q1 : ¬ (l.length : Int) > 16384 := by omega
  have q2 : (l.length : Int) % 4294967296 = l.length := by omega
  have q3 : ¬ 16384 < (l.length : Int) := by omega
  have R1 := put_calls (.slice none 0 0) [] l.length w (Row.nil w) (by omega) (by simp)
  have HS := Lib.hid hS
  have HL := Lib.hid hl
  clear hS hl
  go_enter Tryz.func80, Tryz.ntmps80
  go_wp2_with fail
  refine R1.mono ?_
  rintro e w1 ⟨v1, rfl, hR1, hS1⟩
  have hb1 := hR1.back (by intro e; have := congrArg List.length e; simp [le4_len] at this)
  have HR1 := Lib.hid hR1
  have HS1 := Lib.hid hS1
  clear hR1 hS1 R1
  go_wp2_with fail
  refine (crc_calls _ ([] ++ le4 l.length) w1 rfl (by simp [le4_len])).mono ?_
  rintro e w2 ⟨rfl, hE2⟩
  have R2 := put_calls v1 ([] ++ le4 l.length) (crcN ([] ++ le4 l.length)) w2 (HR1.out.ext hE2) (crcN_lt _) (by simp [le4_len])
  have HE2 := Lib.hid hE2
  clear hE2 hb1
  go_wp2_with fail
  refine R2.mono ?_
  rintro e w3 ⟨v3, rfl, hR3, hS3⟩
  have HE3 := Lib.hid (show Ext w w3 ∧ ∀ g, v3.ownBlock = some g → w.heap.size ≤ g from by
    have h13 := (HS1.out.ext HE2.out).trans hS3
    refine ⟨h13.1.to_ext (by simp [Value.ownBlock]), ?_⟩
    intro g hg
    rcases h13.2 with e | ⟨k, e, hk⟩
    · rw [e] at hg; cases hg
    · rw [e] at hg; cases hg; exact hk)
  have hown := ownsRow_up hR3 HE3.out.2
  have HO := Lib.hid hown
  have hlen3 : (([] ++ le4 l.length) ++ le4 (crcN ([] ++ le4 l.length))).length = 8 := by simp [le4_len]
  have HL3 := Lib.hid hlen3
  clear hR3 hS3 R2 hown hlen3
  have hszw : w.heap.size ≤ w3.heap.size := HE3.out.1.size
  go_wp2_with (at_builtin; refine Lib.wpList_append_own_string _ rfl _ _ 144 9 rfl w.heap.size 5 i0 Tryz.underlying144 Tryz.underlying9 hi hz0 hz1 hz2 v3 _ _ rfl HO.out S rfl (by rw [HL3.out]; have := HL.out; unfold maxLen; omega) (by rw [HL3.out]; have := HL.out; omega) hszw ?_; intro v4 w4 ho4 hg4 hn4)
  have hR4 : Row w4 v4 ((([] ++ le4 l.length) ++ le4 (crcN ([] ++ le4 l.length))) ++ l) := by
    unfold Row
    have e : Lib.strCells S = Lib.byteCells l := by unfold Lib.strCells Lib.byteCells; rw [HS.out]
    have h1 := ownsRow_base ho4 (Nat.zero_le _)
    rw [e, hsz] at h1
    rw [List.length_append]
    simpa only [Lib.byteCells, List.map_append] using h1
  have hE4 : Ext w w4 := by
    have M : Mod [] w w4 := Mod.grown (Mod.of_ext HE3.out.1) hg4 (by intro k hk; right; exact HE3.out.2 k hk)
    exact M.to_ext (by simp)
  have hb4 : ∀ g, v4.ownBlock = some g → w.heap.size ≤ g := fun g hg => (ho4.lt g hg).1
  have HR4 := Lib.hid hR4
  have HE4 := Lib.hid hE4
  have HB4 := Lib.hid hb4
  clear hR4 hE4 hb4 ho4 hg4 hn4
  refine (crc_calls S l w4 HS.out (by have := HL.out; omega)).mono ?_
  rintro e w5 ⟨rfl, hE5⟩
  have R5 := put_calls v4 _ (crcN l) w5 (HR4.out.ext hE5) (crcN_lt _) (by rw [List.length_append, HL3.out]; have := HL.out; omega)
  have HE5 := Lib.hid hE5
  clear hE5
  go_wp2_with fail
  refine R5.mono ?_
  rintro e w6 ⟨v6, rfl, hR6, hS6⟩
  have hb6 := hR6.back (by intro e; have := congrArg List.length e; simp [le4_len] at this)
  have HS6 := Lib.hid hS6
  clear hR6 hS6 R5
  go_wp2_with fail
  go_ret2
  refine ⟨?_, ?_⟩
  · simp [frameL]
  · have M : Mod [] w w6 := (Mod.of_ext (HE4.out.trans HE5.out)).step HS6.out.1 (by intro x hx; right; exact HB4.out x (by simpa using hx))
    exact M.to_ext (by simp)
end Go.Proofs.YtchmhkdnegngdaaGreat
