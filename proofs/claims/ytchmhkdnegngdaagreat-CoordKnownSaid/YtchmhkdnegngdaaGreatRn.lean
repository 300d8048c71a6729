/- pack.In: number, most, Most; Byte; try; Fault; Left; End. -/
import Derived.Deep.DrawnRows
import Derived.Test.YtchmhkdnegngdaaGreatRg
set_option linter.unusedVariables false
set_option linter.unusedSimpArgs false
namespace Go.Proofs.YtchmhkdnegngdaaGreat
open Go.RowKit


/-- a reader's text in memory: pre is read, g is left -/
def InIs (w : World) (ib : Nat) (S : ByteArray) (pre g : List UInt8) : Prop :=
  Blk w ib [.string S, i64 pre.length, i64 0] 156 ∧ S.data.toList = pre ++ g

theorem InIs.size {w : World} {ib : Nat} {S : ByteArray} {pre g : List UInt8} (h : InIs w ib S pre g) : S.size = pre.length + g.length := by
  have := congrArg List.length h.2
  simpa using this

theorem vb_last (n : Nat) : ∃ q x, vb n = q ++ [UInt8.ofNat x] ∧ x < 128 ∧ (1 < (vb n).length → x ≠ 0) := by
  induction n using Nat.strongRecOn with
  | ind n ih =>
    by_cases h : n < 128
    · exact ⟨[], n, by rw [vb_lt h]; rfl, h, by rw [vb_lt h]; simp⟩
    · obtain ⟨q, x, hq, hx, hn⟩ := ih (n / 128) (by omega)
      refine ⟨UInt8.ofNat (n % 128 + 128) :: q, x, by rw [vb_ge h, hq]; rfl, hx, fun _ => ?_⟩
      by_cases h2 : n / 128 < 128
      · rw [vb_lt h2] at hq
        have : [UInt8.ofNat (n / 128)] = q ++ [UInt8.ofNat x] := hq
        cases q with
        | nil =>
          simp only [List.nil_append, List.cons.injEq, and_true] at this
          have e := congrArg UInt8.toNat this
          simp at e
          omega
        | cons a q => simp at this
      · apply hn
        rw [vb_ge h2]
        have := vb_pos (n / 128 / 128)
        simp; omega

set_option maxRecDepth 100000 in
set_option maxHeartbeats 800000 in
theorem number_calls (ib : Nat) (S : ByteArray) (pre g : List UInt8) (n : Nat) (w : World) (h : InIs w ib S pre (vb n ++ g)) (hn : n < 2147483648) (hS : S.size ≤ 100000) :
    Calls Tryz.prog 162 #[.pointer (some ⟨ib, 0, none⟩)] w (fun e w' => e = .returned (.tuple #[u64 n, i64 0]) ∧ InIs w' ib S (pre ++ vb n) g ∧ Mod [ib] w w') := by
  have hlt := h.1.lt
  obtain ⟨c0, f0⟩ := h.1.read
  have hsz := h.size
  simp only [List.length_append] at hsz
  have hpos := vb_pos n
  obtain ⟨L, hL⟩ : ∃ L, (vb n).length = L := ⟨_, rfl⟩
  obtain ⟨A, hA⟩ : ∃ A, pre.length = A := ⟨_, rfl⟩
  rw [hL] at hsz hpos
  rw [hA] at hsz c0
  have q1 : (A : Int) ≤ S.size := by omega
  have HH := Lib.hid h
  have HL := Lib.hid hL
  have HA := Lib.hid hA
  have HZ := Lib.hid hsz
  have hx : (S.extract A S.size).data.toList = vb n ++ g := by
    have e1 : (S.extract A S.size).data = S.data.extract A S.size := ByteArray.data_extract
    rw [e1, Array.toList_extract, h.2, ← hA]
    simp only [List.extract_eq_take_drop, List.drop_left]
    rw [List.take_of_length_le]
    simp only [List.length_append]; omega
  have HX := Lib.hid hx
  clear h hL hA hsz hx
  go_enter Tryz.func162, Tryz.ntmps162
  go_wp2_with fail
  go_region_held3 (fun w' => w'.cell? ⟨ib, 0, none⟩ = some (.string S) ∧ w'.cell? ⟨ib, 1, none⟩ = some (i64 A)) (first | assumption | go_keep | (simp [*, go_sem]; done)) (with_reducible refine (getVar_calls (S.extract A S.size) n g _ HX.out hn).mono ?_; rintro e w' ⟨rfl, rfl⟩)
  have hL0 : ¬ (L : Int) = 0 := by omega
  have hL1 : ¬ (L : Int) < 0 := by omega
  have hL0b : ((L : Int) == 0) = false := by simp; omega
  have hL0d : decide ((L : Int) = 0) = false := by simp; omega
  have hL1d : decide ((L : Int) < 0) = false := by simp
  rw [HL.out]
  go_wp2_with fail
  go_quiet (fail)
  obtain ⟨q, x, hq, hx, hxn⟩ := vb_last n
  rw [HL.out] at hxn
  obtain ⟨I, hI⟩ : ∃ I, I = A + L - 1 := ⟨_, rfl⟩
  have hI2 : (A : Int) + (L : Int) - 1 = (I : Int) := by omega
  have hIs : I < S.size := by have := HZ.out; omega
  have hIsz : (I : Int) < S.size := by omega
  have hql : q.length = L - 1 := by
    have h1 := HL.out
    rw [hq] at h1
    simp at h1; omega
  have hSI : S[I] = UInt8.ofNat x := at_mid (pre := pre ++ q) (l := []) (rest := g) (by rw [HH.out.2, hq]; simp) (by rw [List.length_append, HA.out, hql]; omega) hIs
  have hb : (S[I]).toNat = x := by rw [hSI]; simp; omega
  have HI := Lib.hid hI
  have Hq := Lib.hid hq
  clear hI hSI hq hql
  go_wp2_with fail
  by_cases hL2 : 1 < L
  · have hL2d : decide ((L : Int) > 1) = true := by simp; omega
    have hL2e : (1 : Int) < L := by omega
    have hx0 : ¬ (x : Int) = 0 := by have := hxn hL2; omega
    have hx0b : ((x : Int) == 0) = false := by simp; exact hxn hL2
    clear hxn
    go_quiet (fail)
    go_wp2_with fail
    go_ret2
    refine ⟨rfl, ⟨?_, ?_⟩, ?_⟩
    · have hb := HH.out.1.set 1 (i64 ((A : Int) + L))
      have e : ((pre ++ vb n).length : Int) = (A : Int) + L := by rw [List.length_append, HA.out, HL.out]; push_cast; rfl
      rw [e]
      exact hb
    · rw [HH.out.2, List.append_assoc]
    · with_reducible refine Mod.setCell ?_ (by simp) _
      repeat (first | (with_reducible exact Mod.refl _ _) | (with_reducible refine Mod.drew ?_) | (with_reducible refine Mod.drewN ?_ _))
  · have hL2d : decide ((L : Int) > 1) = false := by simp; omega
    have hL2e : ¬ (1 : Int) < L := by omega
    clear hxn
    go_quiet (fail)
    go_wp2_with fail
    go_ret2
    refine ⟨rfl, ⟨?_, ?_⟩, ?_⟩
    · have hb := HH.out.1.set 1 (i64 ((A : Int) + L))
      have e : ((pre ++ vb n).length : Int) = (A : Int) + L := by rw [List.length_append, HA.out, HL.out]; push_cast; rfl
      rw [e]
      exact hb
    · rw [HH.out.2, List.append_assoc]
    · with_reducible refine Mod.setCell ?_ (by simp) _
      repeat (first | (with_reducible exact Mod.refl _ _) | (with_reducible refine Mod.drew ?_) | (with_reducible refine Mod.drewN ?_ _))
end Go.Proofs.YtchmhkdnegngdaaGreat
