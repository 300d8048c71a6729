/- Acts that come in as an argument. What each row's last step wants. -/
import Derived.Test.YtchmhkdnegngdaaGreatGIv
import Derived.Deep.Slices
import Derived.ChangeSame
import Derived.ChangeArms
import Derived.ChangeOld
set_option linter.unusedVariables false
set_option linter.unusedSimpArgs false
namespace Go.Proofs.YtchmhkdnegngdaaGreat
open Go.RowKit

section
open Go.ChangeShapes Go.WideShapes Go.ChangeAt Go.Deep

section
variable {H : Type} {enc : TypeId × Value → H} {w : World} {base : Nat} {spare : Nat → Bool} {held : Bool}

theorem trod_slice_cell {t e : TypeId} {fuel : Nat} {v : Value} {x : DataW H × List MemPlace} (ht : Tryz.prog.underlying t = some (.slice e)) (h : DataW.trod enc Tryz.prog w base spare held fuel t [v] = some x) : ∃ a n c, v = .slice a n c := by
  rcases DataW.trod_slice ht h with ⟨h1, _⟩ | ⟨a, len, cap, _, _, _, _, h1, _⟩
  · injection h1 with h1 _; exact ⟨_, _, _, h1⟩
  · injection h1 with h1 _; exact ⟨_, _, _, h1⟩

theorem trod_int_cell {t : TypeId} {k : IntKind} {fuel : Nat} {v : Value} {x : DataW H × List MemPlace} (ht : Tryz.prog.underlying t = some (.int k)) (h : DataW.trod enc Tryz.prog w base spare held fuel t [v] = some x) : ∃ n, v = .int k n := by
  obtain ⟨n, h1, _⟩ := DataW.trod_int ht h
  injection h1 with h1 _; exact ⟨_, h1⟩

theorem trod_string_cell {t : TypeId} {fuel : Nat} {v : Value} {x : DataW H × List MemPlace} (ht : Tryz.prog.underlying t = some .string) (h : DataW.trod enc Tryz.prog w base spare held fuel t [v] = some x) : ∃ s, v = .string s := by
  obtain ⟨n, h1, _⟩ := DataW.trod_string ht h
  injection h1 with h1 _; exact ⟨_, h1⟩

theorem field_of {fs : Array Field} {cs : List Value} {n : Nat} {xs : List (DataW H × List MemPlace)} (hf : ∀ (i : Nat) (f : Field), fs[i]? = some f → DataW.trod enc Tryz.prog w base spare held n f.type ((cs.drop f.offset).take (Tryz.prog.cellsOf f.type)) = xs[i]?)
    (hxl : xs.length = fs.size) (i : Nat) (f : Field) (hi : fs[i]? = some f) {ty : TypeId} {off z : Nat} (h1 : f.type = ty) (h2 : f.offset = off) (hz : Tryz.prog.cellsOf ty = z) :
    ∃ y, DataW.trod enc Tryz.prog w base spare held n ty ((cs.drop off).take z) = some y := by
  have h := hf i f hi
  have hlt : i < fs.size := (Array.getElem?_eq_some_iff.1 hi).1
  rw [List.getElem?_eq_getElem (by omega), h1, h2, hz] at h
  exact ⟨_, h⟩

set_option maxRecDepth 100000 in
theorem open_item {fuel : Nat} {cs : List Value} {x : DataW H × List MemPlace} (h : DataW.trod enc Tryz.prog w base spare held fuel 38 cs = some x) :
    ∃ n0 n1 n2 n3 n4 n5 n6 n7, cs = [i64 n0, i64 n1, i64 n2, .int .u8 n3, .string n4, i64 n5, i64 n6, i64 n7] := by
  obtain ⟨xs, n, _, _, hlen, hxl, hf⟩ := DataW.trod_struct Tryz.underlying38 h
  have hl : cs.length = 8 := hlen.trans (by kernel_rfl)
  match cs, hl with
  | [m0, m1, m2, m3, m4, m5, m6, m7], _ =>
    obtain ⟨y0, g0⟩ := field_of hf hxl 0 _ rfl (ty := 3) (off := 0) (z := 1) rfl rfl (by kernel_rfl)
    obtain ⟨n0, rfl⟩ := trod_int_cell Tryz.underlying3 g0
    obtain ⟨y1, g1⟩ := field_of hf hxl 1 _ rfl (ty := 3) (off := 1) (z := 1) rfl rfl (by kernel_rfl)
    obtain ⟨n1, rfl⟩ := trod_int_cell Tryz.underlying3 g1
    obtain ⟨y2, g2⟩ := field_of hf hxl 2 _ rfl (ty := 3) (off := 2) (z := 1) rfl rfl (by kernel_rfl)
    obtain ⟨n2, rfl⟩ := trod_int_cell Tryz.underlying3 g2
    obtain ⟨y3, g3⟩ := field_of hf hxl 3 _ rfl (ty := 5) (off := 3) (z := 1) rfl rfl (by kernel_rfl)
    obtain ⟨n3, rfl⟩ := trod_int_cell Tryz.underlying5 g3
    obtain ⟨y4, g4⟩ := field_of hf hxl 4 _ rfl (ty := 9) (off := 4) (z := 1) rfl rfl (by kernel_rfl)
    obtain ⟨n4, rfl⟩ := trod_string_cell Tryz.underlying9 g4
    obtain ⟨y5, g5⟩ := field_of hf hxl 5 _ rfl (ty := 3) (off := 5) (z := 1) rfl rfl (by kernel_rfl)
    obtain ⟨n5, rfl⟩ := trod_int_cell Tryz.underlying3 g5
    obtain ⟨y6, g6⟩ := field_of hf hxl 6 _ rfl (ty := 2) (off := 6) (z := 1) rfl rfl (by kernel_rfl)
    obtain ⟨n6, rfl⟩ := trod_int_cell Tryz.underlying2 g6
    obtain ⟨y7, g7⟩ := field_of hf hxl 7 _ rfl (ty := 2) (off := 7) (z := 1) rfl rfl (by kernel_rfl)
    obtain ⟨n7, rfl⟩ := trod_int_cell Tryz.underlying2 g7
    exact ⟨n0, n1, n2, n3, n4, n5, n6, n7, rfl⟩

set_option maxRecDepth 100000 in
theorem open_table {fuel : Nat} {cs : List Value} {x : DataW H × List MemPlace} (h : DataW.trod enc Tryz.prog w base spare held fuel 28 cs = some x) :
    ∃ n0 n1 a n c, cs = [i64 n0, i64 n1, .slice a n c] := by
  obtain ⟨xs, n, _, _, hlen, hxl, hf⟩ := DataW.trod_struct Tryz.underlying28 h
  have hl : cs.length = 3 := hlen.trans (by kernel_rfl)
  match cs, hl with
  | [m0, m1, m2], _ =>
    obtain ⟨y0, g0⟩ := field_of hf hxl 0 _ rfl (ty := 3) (off := 0) (z := 1) rfl rfl (by kernel_rfl)
    obtain ⟨n0, rfl⟩ := trod_int_cell Tryz.underlying3 g0
    obtain ⟨y1, g1⟩ := field_of hf hxl 1 _ rfl (ty := 3) (off := 1) (z := 1) rfl rfl (by kernel_rfl)
    obtain ⟨n1, rfl⟩ := trod_int_cell Tryz.underlying3 g1
    obtain ⟨y2, g2⟩ := field_of hf hxl 2 _ rfl (ty := 26) (off := 2) (z := 1) rfl rfl (by kernel_rfl)
    obtain ⟨a2, n2, c2, rfl⟩ := trod_slice_cell Tryz.underlying26 g2
    exact ⟨n0, n1, a2, n2, c2, rfl⟩

/-- a message's cells, as they may come in -/
def MsgIn (M : List Value) : Prop := ∃ k mv part to_ nn cnt code dig at_ i0 i1 i2 i3 s i5 i6 i7 e n a1 l1 c1 a2 l2 c2 d,
  M = [.int .u8 k, i64 mv, i64 part, i64 to_, i64 nn, i64 cnt, i64 code, .int .u64 dig, i64 at_, i64 i0, i64 i1, i64 i2, .int .u8 i3, .string s, i64 i5, i64 i6, i64 i7, i64 e, i64 n, .slice a1 l1 c1, .slice a2 l2 c2, .string d]

set_option maxRecDepth 100000 in
theorem open_msg {fuel : Nat} {cs : List Value} {x : DataW H × List MemPlace} (h : DataW.trod enc Tryz.prog w base spare held fuel 40 cs = some x) :
    MsgIn cs := by
  obtain ⟨xs, n, _, _, hlen, hxl, hf⟩ := DataW.trod_struct Tryz.underlying40 h
  have hl : cs.length = 22 := hlen.trans (by kernel_rfl)
  match cs, hl with
  | [m0, m1, m2, m3, m4, m5, m6, m7, m8, m9, m10, m11, m12, m13, m14, m15, m16, m17, m18, m19, m20, m21], _ =>
    obtain ⟨y0, g0⟩ := field_of hf hxl 0 _ rfl (ty := 5) (off := 0) (z := 1) rfl rfl (by kernel_rfl)
    obtain ⟨n0, rfl⟩ := trod_int_cell Tryz.underlying5 g0
    obtain ⟨y1, g1⟩ := field_of hf hxl 1 _ rfl (ty := 3) (off := 1) (z := 1) rfl rfl (by kernel_rfl)
    obtain ⟨n1, rfl⟩ := trod_int_cell Tryz.underlying3 g1
    obtain ⟨y2, g2⟩ := field_of hf hxl 2 _ rfl (ty := 3) (off := 2) (z := 1) rfl rfl (by kernel_rfl)
    obtain ⟨n2, rfl⟩ := trod_int_cell Tryz.underlying3 g2
    obtain ⟨y3, g3⟩ := field_of hf hxl 3 _ rfl (ty := 3) (off := 3) (z := 1) rfl rfl (by kernel_rfl)
    obtain ⟨n3, rfl⟩ := trod_int_cell Tryz.underlying3 g3
    obtain ⟨y4, g4⟩ := field_of hf hxl 4 _ rfl (ty := 3) (off := 4) (z := 1) rfl rfl (by kernel_rfl)
    obtain ⟨n4, rfl⟩ := trod_int_cell Tryz.underlying3 g4
    obtain ⟨y5, g5⟩ := field_of hf hxl 5 _ rfl (ty := 3) (off := 5) (z := 1) rfl rfl (by kernel_rfl)
    obtain ⟨n5, rfl⟩ := trod_int_cell Tryz.underlying3 g5
    obtain ⟨y6, g6⟩ := field_of hf hxl 6 _ rfl (ty := 3) (off := 6) (z := 1) rfl rfl (by kernel_rfl)
    obtain ⟨n6, rfl⟩ := trod_int_cell Tryz.underlying3 g6
    obtain ⟨y7, g7⟩ := field_of hf hxl 7 _ rfl (ty := 36) (off := 7) (z := 1) rfl rfl (by kernel_rfl)
    obtain ⟨n7, rfl⟩ := trod_int_cell Tryz.underlying36 g7
    obtain ⟨y8, g8⟩ := field_of hf hxl 8 _ rfl (ty := 2) (off := 8) (z := 1) rfl rfl (by kernel_rfl)
    obtain ⟨n8, rfl⟩ := trod_int_cell Tryz.underlying2 g8
    obtain ⟨y9, g9⟩ := field_of hf hxl 9 _ rfl (ty := 38) (off := 9) (z := 8) rfl rfl (by kernel_rfl)
    obtain ⟨i0, i1, i2, i3, i4, i5, i6, i7, hi⟩ := open_item g9
    simp only [List.drop_succ_cons, List.drop_zero, List.take_succ_cons, List.take_zero, List.cons.injEq, and_true] at hi
    obtain ⟨rfl, rfl, rfl, rfl, rfl, rfl, rfl, rfl⟩ := hi
    obtain ⟨y10, g10⟩ := field_of hf hxl 10 _ rfl (ty := 28) (off := 17) (z := 3) rfl rfl (by kernel_rfl)
    obtain ⟨t0, t1, a, n, c, hi⟩ := open_table g10
    simp only [List.drop_succ_cons, List.drop_zero, List.take_succ_cons, List.take_zero, List.cons.injEq, and_true] at hi
    obtain ⟨rfl, rfl, rfl⟩ := hi
    obtain ⟨y11, g11⟩ := field_of hf hxl 11 _ rfl (ty := 26) (off := 20) (z := 1) rfl rfl (by kernel_rfl)
    obtain ⟨a11, n11, c11, rfl⟩ := trod_slice_cell Tryz.underlying26 g11
    obtain ⟨y12, g12⟩ := field_of hf hxl 12 _ rfl (ty := 9) (off := 21) (z := 1) rfl rfl (by kernel_rfl)
    obtain ⟨n12, rfl⟩ := trod_string_cell Tryz.underlying9 g12
    exact ⟨_, _, _, _, _, _, _, _, _, _, _, _, _, _, _, _, _, _, _, _, _, _, _, _, _, _, rfl⟩

theorem MsgIn.ac {M : List Value} (h : MsgIn M) : ∃ (kind mv mpart mcode : Int) (l1 l2 : Nat) (s1 s2 : ByteArray), ∀ (do_ part dst frm of_ code : Int), Ac.ok ⟨do_, part, dst, frm, M, of_, code, kind, mv, mpart, mcode, l1, l2, s1, s2⟩ := by
  obtain ⟨k, mv, part, to_, nn, cnt, code, dig, at_, i0, i1, i2, i3, s, i5, i6, i7, e, n, a1, l1, c1, a2, l2, c2, d, rfl⟩ := h
  refine ⟨k, mv, part, code, l2, l1, d, s, fun _ _ _ _ _ _ => ⟨rfl, ?_, ⟨rfl, rfl, rfl, rfl⟩, ⟨a2, c2, rfl⟩, ⟨a1, c1, rfl⟩, rfl, rfl⟩⟩
  intro u hu
  simp only [List.mem_cons, List.not_mem_nil, or_false] at hu
  rcases hu with h | h | h | h | h | h | h | h | h | h | h | h | h | h | h | h | h | h | h | h | h | h <;> (rw [h]; rfl)

set_option maxRecDepth 100000 in
theorem open_act {fuel : Nat} {cs : List Value} {x : DataW H × List MemPlace} (h : DataW.trod enc Tryz.prog w base spare held fuel 62 cs = some x) :
    ∃ x : Ac, x.ok ∧ x.cells = cs := by
  obtain ⟨xs, n, _, _, hlen, hxl, hf⟩ := DataW.trod_struct Tryz.underlying62 h
  have hl : cs.length = 28 := hlen.trans (by kernel_rfl)
  match cs, hl with
  | [m0, m1, m2, m3, m4, m5, m6, m7, m8, m9, m10, m11, m12, m13, m14, m15, m16, m17, m18, m19, m20, m21, m22, m23, m24, m25, m26, m27], _ =>
    obtain ⟨y0, g0⟩ := field_of hf hxl 0 _ rfl (ty := 3) (off := 0) (z := 1) rfl rfl (by kernel_rfl)
    obtain ⟨n0, rfl⟩ := trod_int_cell Tryz.underlying3 g0
    obtain ⟨y1, g1⟩ := field_of hf hxl 1 _ rfl (ty := 3) (off := 1) (z := 1) rfl rfl (by kernel_rfl)
    obtain ⟨n1, rfl⟩ := trod_int_cell Tryz.underlying3 g1
    obtain ⟨y2, g2⟩ := field_of hf hxl 2 _ rfl (ty := 3) (off := 2) (z := 1) rfl rfl (by kernel_rfl)
    obtain ⟨n2, rfl⟩ := trod_int_cell Tryz.underlying3 g2
    obtain ⟨y3, g3⟩ := field_of hf hxl 3 _ rfl (ty := 3) (off := 3) (z := 1) rfl rfl (by kernel_rfl)
    obtain ⟨n3, rfl⟩ := trod_int_cell Tryz.underlying3 g3
    obtain ⟨y4, g4⟩ := field_of hf hxl 4 _ rfl (ty := 40) (off := 4) (z := 22) rfl rfl (by kernel_rfl)
    have hM : MsgIn _ := open_msg g4
    obtain ⟨y5, g5⟩ := field_of hf hxl 5 _ rfl (ty := 3) (off := 26) (z := 1) rfl rfl (by kernel_rfl)
    obtain ⟨n5, rfl⟩ := trod_int_cell Tryz.underlying3 g5
    obtain ⟨y6, g6⟩ := field_of hf hxl 6 _ rfl (ty := 3) (off := 27) (z := 1) rfl rfl (by kernel_rfl)
    obtain ⟨n6, rfl⟩ := trod_int_cell Tryz.underlying3 g6
    obtain ⟨kind, mv, mpart, mcode, l1, l2, s1, s2, hok⟩ := hM.ac
    exact ⟨_, hok n0 n1 n2 n3 n5 n6, rfl⟩

set_option maxRecDepth 100000 in
/-- a slice of acts that came in -/
theorem open_acts {v : Value} {d : DataW H} {p : List MemPlace} {r : Reach} {b0 : Nat} (hval : Value.okWide Tryz.prog w r b0 51 v) (h : DataW.Trod enc Tryz.prog w base spare held 51 v d p) (hsp : ∀ b, spare b = true) :
    ∃ A c xs, v = .slice A (xs : List Ac).length c ∧ Acts w A xs := by
  obtain ⟨a, len, cap, rfl⟩ := okWide_slice Tryz.underlying51 hval
  obtain ⟨fuel, hf⟩ := h
  rcases open_slice Tryz.underlying51 hf with ⟨h1, _⟩ | ⟨ad, l, c, m, n, D, Pl, h1, _, hl, _, hm, _, hi⟩
  · simp [Value.cells] at h1
    obtain ⟨rfl, rfl, rfl⟩ := h1
    exact ⟨none, 0, [], rfl, by simp, fun h => absurd rfl h⟩
  · simp [Value.cells] at h1
    obtain ⟨rfl, rfl, rfl⟩ := h1
    have hmm : len ≤ m := by rw [hm]; split <;> omega
    have hc : Tryz.prog.cellsOf 62 = 28 := by kernel_rfl
    rw [hc] at hi
    have hx : ∀ i : Fin len, ∃ x : Ac, x.ok ∧ ∀ (j : Nat) (u : Value), x.cells[j]? = some u → w.cell? (ad.add (i * 28 + j)) = some u := by
      intro i
      obtain ⟨cs', q1, q2⟩ := hi i (by omega)
      obtain ⟨x, hx, e⟩ := open_act q2
      refine ⟨x, hx, fun j u hu => ?_⟩
      obtain ⟨_, hlen, hcell⟩ := World.cells?_some q1
      have hj : j < 28 := by
        rcases Nat.lt_or_ge j 28 with h1 | h1
        · exact h1
        · rw [List.getElem?_eq_none (by rw [hx.cells_len]; exact h1)] at hu; cases hu
      rw [← Go.Deep.add_add, hcell j hj, ← e, hu]
    have hch := fun i => Classical.choose_spec (hx i)
    refine ⟨some ad, cap, List.ofFn (fun i => Classical.choose (hx i)), by simp, ?_, ?_⟩
    · intro x hxm
      rw [List.mem_ofFn] at hxm
      obtain ⟨i, rfl⟩ := hxm
      exact (hch i).1
    · intro hne
      have hpos : 0 < len := by
        rcases Nat.eq_zero_or_pos len with h0 | h0
        · subst h0; simp at hne
        · exact h0
      obtain ⟨b, off, spot⟩ := ad
      have h0 := (hch ⟨0, hpos⟩).2 0 _ rfl
      have hspot : spot = none := by
        simp only [Nat.zero_mul, Nat.add_zero, Addr.add, if_pos] at h0
        exact World.cell?_spot h0
      subst hspot
      have hb : b < w.heap.size := by
        simp only [Nat.zero_mul, Nat.add_zero, Addr.add, if_pos] at h0
        exact World.block_lt_of_cell? w _ h0
      refine ⟨b, off, rfl, hb, fun i hi j u hu => ?_⟩
      simp only [List.length_ofFn] at hi
      rw [List.getElem_ofFn] at hu
      have := (hch ⟨i, hi⟩).2 j u hu
      rw [addr_add] at this
      rw [Nat.add_assoc]; exact this
end
end

section
open Go.ChangeShapes Go.WideShapes Go.ChangeAt

theorem Tryz.own : ownKnob Tryz.prog.godebug = none := by kernel_rfl
theorem Tryz.laidOut : laidOutB Tryz.prog = true := by kernel_rfl
theorem u8_nat {n : Int} (h : (Lit.int .u8 n).wf = true) : ∃ k : Nat, n = (k : Int) ∧ k < 256 := by
  have h2 : 0 ≤ n ∧ n < 256 := by
    simp only [Lit.wf, Bool.and_eq_true, decide_eq_true_eq, show IntKind.u8.min = 0 by decide, show IntKind.u8.max = 255 by decide] at h
    omega
  exact ⟨n.toNat, by omega, by omega⟩
end
end Go.Proofs.YtchmhkdnegngdaaGreat
