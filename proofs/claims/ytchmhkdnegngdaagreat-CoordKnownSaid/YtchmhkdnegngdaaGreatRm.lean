/- pack.In: most, Most; Byte; try; Fault; Left; End. -/
import Derived.Deep.DrawnRows
import Derived.Test.YtchmhkdnegngdaaGreatRn
set_option linter.unusedVariables false
set_option linter.unusedSimpArgs false
namespace Go.Proofs.YtchmhkdnegngdaaGreat
open Go.RowKit


theorem wrap_i64 {a : Nat} (ha : a < 9223372036854775808) : IntKind.i64.wrap (a : Int) = a := by
  simp [IntKind.wrap, IntKind.signed, IntKind.bits]
  omega

set_option maxRecDepth 100000 in
theorem most_calls (ib : Nat) (S : ByteArray) (pre g : List UInt8) (n : Nat) (most : Int) (w : World) (h : InIs w ib S pre (vb n ++ g)) (hn : n < 2147483648) (hS : S.size ≤ 100000) (hm : (n : Int) ≤ most) (hm2 : most < 2147483648) :
    Calls Tryz.prog 159 #[.pointer (some ⟨ib, 0, none⟩), i64 most] w (fun e w' => e = .returned (.tuple #[i64 n, i64 0]) ∧ InIs w' ib S (pre ++ vb n) g ∧ Mod [ib] w w') := by
  obtain ⟨M, hM⟩ := Int.eq_ofNat_of_zero_le (show 0 ≤ most by omega)
  have hw1 : IntKind.u64.wrap most = most := by rw [hM]; exact wrap_u64 (by omega)
  have hw2 : wrap64 (n : Int) = n := by unfold wrap64; omega
  have hm0 : ¬ most < 0 := by omega
  have hm0d : decide (most < 0) = false := by simp; omega
  have hmn : ¬ most < (n : Int) := by omega
  have hmnd : decide (most < (n : Int)) = false := by simp; omega
  clear hM
  go_enter Tryz.func159, Tryz.ntmps159
  go_wp2_with fail
  refine (number_calls ib S pre g n w h hn hS).mono ?_
  rintro e w1 ⟨rfl, hI, hM⟩
  have HI := Lib.hid hI
  have HM := Lib.hid hM
  have HM2 := Lib.hid hm2
  have HM1 := Lib.hid hm
  have HN := Lib.hid hn
  clear hI hM h hm2 hm hn
  iterate 12 (go_wp21)
  go_ret2
  refine ⟨?_, HI.out, HM.out⟩
  show Ending.returned (.tuple #[i64 (wrap64 n), i64 0]) = _
  rw [hw2]

set_option maxRecDepth 100000 in
theorem most1_calls (ib pb mb nb : Nat) (S : ByteArray) (pre g : List UInt8) (n : Nat) (most x : Int) (w : World) (h : InIs w ib S pre (vb n ++ g)) (hn : n < 2147483648) (hS : S.size ≤ 100000) (hm : (n : Int) ≤ most) (hm2 : most < 2147483648)
    (h1 : Blk w pb [.pointer (some ⟨ib, 0, none⟩)] 131) (h2 : Blk w mb [i64 most] 3) (h3 : Blk w nb [i64 x] 3) (n1 : pb ≠ ib) (n2 : mb ≠ ib) (n3 : nb ≠ ib) :
    Calls Tryz.prog 158 #[.pointer (some ⟨pb, 0, none⟩), .pointer (some ⟨mb, 0, none⟩), .pointer (some ⟨nb, 0, none⟩)] w (fun e w' => e = .returned (i64 0) ∧ InIs w' ib S (pre ++ vb n) g ∧ Blk w' nb [i64 n] 3 ∧ Mod [ib, nb] w w') := by
  obtain ⟨a1, b1⟩ := h1.read
  obtain ⟨a2, b2⟩ := h2.read
  have H3 := Lib.hid h3
  have H1 := Lib.hid h1
  clear h1 h2 h3
  go_enter Tryz.func158, Tryz.ntmps158
  go_wp2_with fail
  refine (most_calls ib S pre g n most w h hn hS hm hm2).mono ?_
  rintro e w1 ⟨rfl, hI, hM⟩
  have h3 := H3.out.mod hM (by simpa using n3)
  obtain ⟨a3, b3⟩ := h3.read
  have HI := Lib.hid hI
  have HM := Lib.hid hM
  have H3 := Lib.hid h3
  clear hI hM h h3 a1 b1 a2 b2
  go_wp2_with fail
  go_ret
  refine ⟨rfl, ⟨HI.out.1.set_other _ _ (fun e => n3 e.symm), HI.out.2⟩, H3.out.set 0 _, ?_⟩
  have m1 : Mod [ib, nb] w w1 := HM.out.mono (by simp)
  exact m1.setCell (by simp) _

set_option maxRecDepth 100000 in
theorem try_most (ib pb mb nb : Nat) (S : ByteArray) (pre g : List UInt8) (n : Nat) (most x : Int) (w : World) (h : InIs w ib S pre (vb n ++ g)) (hn : n < 2147483648) (hS : S.size ≤ 100000) (hm : (n : Int) ≤ most) (hm2 : most < 2147483648)
    (h1 : Blk w pb [.pointer (some ⟨ib, 0, none⟩)] 131) (h2 : Blk w mb [i64 most] 3) (h3 : Blk w nb [i64 x] 3) (n1 : pb ≠ ib) (n2 : mb ≠ ib) (n3 : nb ≠ ib) :
    Calls Tryz.prog 156 #[.pointer (some ⟨ib, 0, none⟩), .func (.func 158) #[] #[.pointer (some ⟨pb, 0, none⟩), .pointer (some ⟨mb, 0, none⟩), .pointer (some ⟨nb, 0, none⟩)]] w (fun e w' => e = .returned (.tuple #[]) ∧ InIs w' ib S (pre ++ vb n) g ∧ Blk w' nb [i64 n] 3 ∧ Mod [ib, nb] w w') := by
  obtain ⟨a1, b1⟩ := h.1.read
  have R := most1_calls ib pb mb nb S pre g n most x w h hn hS hm hm2 h1 h2 h3 n1 n2 n3
  clear h h1 h2 h3
  go_enter Tryz.func156, Tryz.ntmps156
  go_wp2_with fail
  refine R.mono ?_
  rintro e w1 ⟨rfl, hI, hB, hM⟩
  have HI := Lib.hid hI
  have HM := Lib.hid hM
  have HB := Lib.hid hB
  clear hI hM hB R a1 b1
  go_wp2_with fail
  go_end0
  exact ⟨rfl, HI.out, HB.out, HM.out⟩

set_option maxRecDepth 100000 in
theorem Most_calls (ib : Nat) (S : ByteArray) (pre g : List UInt8) (n : Nat) (most : Int) (w : World) (h : InIs w ib S pre (vb n ++ g)) (hn : n < 2147483648) (hS : S.size ≤ 100000) (hm : (n : Int) ≤ most) (hm2 : most < 2147483648) :
    Calls Tryz.prog 152 #[.pointer (some ⟨ib, 0, none⟩), i64 most] w (fun e w' => e = .returned (i64 n) ∧ InIs w' ib S (pre ++ vb n) g ∧ Mod [ib] w w') := by
  have hlt := h.1.lt
  have e0 : Ext w (((w.alloc (.cells #[.pointer (some ⟨ib, 0, none⟩)] 131)).alloc (.cells #[i64 most] 3)).alloc (.cells #[i64 0] 3)) := by (refine Mod.to_ext (S := []) ?_ (by simp); repeat (first | (with_reducible exact Mod.refl _ _) | (with_reducible assumption) | (with_reducible refine Mod.alloc ?_ _) | (with_reducible refine Mod.drew ?_) | (with_reducible refine Mod.drewN ?_ _)))
  have h1 : Blk (((w.alloc (.cells #[.pointer (some ⟨ib, 0, none⟩)] 131)).alloc (.cells #[i64 most] 3)).alloc (.cells #[i64 0] 3)) w.heap.size [.pointer (some ⟨ib, 0, none⟩)] 131 := ((Blk.new w [.pointer (some ⟨ib, 0, none⟩)] 131).old _).old _
  have h2 : Blk (((w.alloc (.cells #[.pointer (some ⟨ib, 0, none⟩)] 131)).alloc (.cells #[i64 most] 3)).alloc (.cells #[i64 0] 3)) (w.heap.size + 1) [i64 most] 3 := (Blk.at _ [i64 most] 3 _ (by simp)).old _
  have h3 : Blk (((w.alloc (.cells #[.pointer (some ⟨ib, 0, none⟩)] 131)).alloc (.cells #[i64 most] 3)).alloc (.cells #[i64 0] 3)) (w.heap.size + 2) [i64 0] 3 := Blk.at _ [i64 0] 3 _ (by simp)
  have R := try_most ib w.heap.size (w.heap.size + 1) (w.heap.size + 2) S pre g n most 0 _ ⟨h.1.ext e0, h.2⟩ hn hS hm hm2 h1 h2 h3 (by omega) (by omega) (by omega)
  clear h1 h2 h3
  go_enter Tryz.func152, Tryz.ntmps152
  go_wp2_with fail
  refine R.mono ?_
  rintro e w1 ⟨rfl, hI, hB, hM⟩
  obtain ⟨a1, b1⟩ := hB.read
  have HI := Lib.hid hI
  have HM := Lib.hid hM
  have HB := Lib.hid hB
  clear hI hM hB R
  go_wp2_with fail
  refine bodyPost_ret (v := i64 n) (by simp [results, Tryz.results152, go_sem, a1]) rfl ?_
  refine ⟨rfl, ⟨HI.out.1.set_other _ _ (by simp; omega), HI.out.2⟩, ?_⟩
  have m0 : Mod [ib] w w1 := (Mod.of_ext e0).step HM.out (by simp)
  exact m0.setCell (by right; simp; omega) _

theorem fault_calls (ib : Nat) (S : ByteArray) (pre g : List UInt8) (w : World) (h : InIs w ib S pre g) :
    Calls Tryz.prog 96 #[.pointer (some ⟨ib, 0, none⟩)] w (fun e w' => e = .returned (.tuple #[i64 0, i64 0]) ∧ w = w') := by
  obtain ⟨a1, b1⟩ := h.1.read
  go_enter Tryz.func96, Tryz.ntmps96
  go_wp2_with fail
  go_ret2
  exact ⟨rfl, rfl⟩

theorem left_calls (ib : Nat) (S : ByteArray) (pre : List UInt8) (w : World) (h : InIs w ib S pre []) (hS : S.size ≤ 100000) :
    Calls Tryz.prog 97 #[.pointer (some ⟨ib, 0, none⟩)] w (fun e w' => e = .returned (i64 0) ∧ ∃ n, w' = w.drewN n) := by
  obtain ⟨a1, b1⟩ := h.1.read
  have hz := h.size
  simp only [List.length_nil, Nat.add_zero] at hz
  rw [← hz] at a1
  go_enter Tryz.func97, Tryz.ntmps97
  go_wp2_with fail
  go_quiet (fail)
  go_wp2_with fail
  go_ret
  exact ⟨rfl, _, rfl⟩

theorem end_calls' (ib : Nat) (S : ByteArray) (pre : List UInt8) (w : World) (h : InIs w ib S pre []) (hS : S.size ≤ 100000) :
    Calls Tryz.prog 74 #[.pointer (some ⟨ib, 0, none⟩)] w (fun e w' => e = .returned (i64 0) ∧ Ext w w') := by
  go_enter Tryz.func74, Tryz.ntmps74
  go_wp2_with fail
  refine (fault_calls ib S pre [] w h).mono ?_
  rintro e w1 ⟨rfl, rfl⟩
  go_wp2_with fail
  refine (left_calls ib S pre w h hS).mono ?_
  rintro e w1 ⟨rfl, n, rfl⟩
  go_wp2_with fail
  go_ret
  exact ⟨rfl, by (refine Mod.to_ext (S := []) ?_ (by simp); repeat (first | (with_reducible exact Mod.refl _ _) | (with_reducible assumption) | (with_reducible refine Mod.alloc ?_ _) | (with_reducible refine Mod.drew ?_) | (with_reducible refine Mod.drewN ?_ _)))⟩
end Go.Proofs.YtchmhkdnegngdaaGreat
