/- Rows of cells that a load takes whole. one: an act of a coordinator. packets: true of packets alike. -/
import Derived.Test.YtchmhkdnegngdaaGreatGSy
import Derived.Laws.StructEq
set_option linter.unusedVariables false
set_option linter.unusedSimpArgs false
namespace Go.Proofs.YtchmhkdnegngdaaGreat
open Go.RowKit

section
/-- a row of n cells lies at p -/
def rowAt (w : World) (p : Addr) (n : Nat) : Bool := (List.range n).all fun j => (w.cell? (p.add j)).isSome
def cellsAt (w : World) (p : Addr) (n : Nat) : Array Value := ((List.range n).map fun j => (w.cell? (p.add j)).getD undef).toArray

theorem rowAt_of {w : World} {p : Addr} {cs : List Value} (h : ∀ (j : Nat) (u : Value), cs[j]? = some u → w.cell? (p.add j) = some u) {n : Nat} (hn : cs.length = n) : rowAt w p n = true ∧ cellsAt w p n = cs.toArray := by
  subst hn
  constructor
  · unfold rowAt
    rw [List.all_eq_true]
    intro j hj
    rw [h j _ (List.getElem?_eq_getElem (by simpa using hj))]
    rfl
  · unfold cellsAt
    congr 1
    apply List.ext_getElem (by simp)
    intro j h1 h2
    simp [h j _ (List.getElem?_eq_getElem h2)]

theorem cells_of_rowAt {w : World} {p : Addr} {n : Nat} (h : rowAt w p n = true) : ∀ (j : Nat) (u : Value), (cellsAt w p n).toList[j]? = some u → w.cell? (p.add j) = some u := by
  intro j u hu
  unfold rowAt at h
  rw [List.all_eq_true] at h
  unfold cellsAt at hu
  have hj : j < n := by
    rcases Nat.lt_or_ge j n with h1 | h1
    · exact h1
    · rw [List.getElem?_eq_none (by simpa using h1)] at hu; cases hu
  have h1 := h j (by simpa using hj)
  obtain ⟨v, hv⟩ := Option.isSome_iff_exists.1 h1
  simp [hj, hv] at hu
  rw [hv, hu]

theorem load62_pre {w : World} {p : Addr} (h : rowAt w p 28 = true) : (loadVar 62 p).run Tryz.prog w = .ok (.agg (cellsAt w p 28)) w := by
  have := run_loadVar_at (P := Tryz.prog) w p 62 (cellsAt w p 28).toList _ (cells_of_rowAt h) Tryz.underlying62 rfl (by rw [show (cellsAt w p 28).toList.length = 28 by simp [cellsAt]]; kernel_rfl)
  simpa using this


/-- a load of an act, of a message, of a move: kept whole -/
def ld62 (v : Value) : Sem Value := Instr.loadAt 62 v
def ld40 (v : Value) : Sem Value := Instr.loadAt 40 v
def ld77 (v : Value) : Sem Value := Instr.loadAt 77 v
theorem ld62_pre (v : Value) : Instr.loadAt 62 v = ld62 v := rfl
theorem ld40_pre (v : Value) : Instr.loadAt 40 v = ld40 v := rfl
theorem ld77_pre (v : Value) : Instr.loadAt 77 v = ld77 v := rfl
theorem ld62_run {w : World} {p : Addr} (h : rowAt w p 28 = true) : (ld62 (.pointer (some p))).run Tryz.prog w = .ok (.agg (cellsAt w p 28)) w := by
  unfold ld62
  simp only [Instr.loadAt, Instr.sureAddr, Sem.run_bind, Sem.run_pure, Result.andThen_ok, load62_pre h]
theorem ld40_run {w : World} {p : Addr} (h : rowAt w p 22 = true) : (ld40 (.pointer (some p))).run Tryz.prog w = .ok (.agg (cellsAt w p 22)) w := by
  have := run_loadVar_at (P := Tryz.prog) w p 40 (cellsAt w p 22).toList _ (cells_of_rowAt h) Tryz.underlying40 rfl (by rw [show (cellsAt w p 22).toList.length = 22 by simp [cellsAt]]; kernel_rfl)
  unfold ld40
  simp only [Instr.loadAt, Instr.sureAddr, Sem.run_bind, Sem.run_pure, Result.andThen_ok, this]
theorem ld77_run {w : World} {p : Addr} (h : rowAt w p 6 = true) : (ld77 (.pointer (some p))).run Tryz.prog w = .ok (.agg (cellsAt w p 6)) w := by
  have := run_loadVar_at (P := Tryz.prog) w p 77 (cellsAt w p 6).toList _ (cells_of_rowAt h) Tryz.underlying77 rfl (by rw [show (cellsAt w p 6).toList.length = 6 by simp [cellsAt]]; kernel_rfl)
  unfold ld77
  simp only [Instr.loadAt, Instr.sureAddr, Sem.run_bind, Sem.run_pure, Result.andThen_ok, this]

theorem st_row {w : World} {N : Nat} {M : List Value} (hG : w.heap[N]? = some zlit) (hl : M.length = 22) (h1 : ∀ u ∈ M, u.oneCell' = true) :
    (storeCells ⟨N, 0, none⟩ M).run Tryz.prog w = .ok () (w.setRow N M.toArray) := run_storeCells_row w N M _ 40 hG (by rw [hl]; rfl) h1

theorem row_of_heap {w : World} {N : Nat} {M : List Value} (h : w.heap[N]? = some (.cells M.toArray 40 (0, 0))) (hl : M.length = 22) : rowAt w ⟨N, 0, none⟩ 22 = true ∧ cellsAt w ⟨N, 0, none⟩ 22 = M.toArray :=
  rowAt_of (fun j u hu => by rw [addr_add, Nat.zero_add, (show Blk w N M 40 from h).read.1]; exact hu) hl
end

section
def St.one (s : St) (x : Ac) : St × Int × Int × Bool :=
  if x.do_ = 0 then ((s.order x.part x.dst).1, (s.order x.part x.dst).2.1, (s.order x.part x.dst).2.2, false)
  else if x.do_ = 1 then ((s.abort x.part).1, 0, (s.abort x.part).2, false)
  else if x.do_ = 2 ∨ x.do_ = 4 then
    ((s.handle (says x s.L).frm (says x s.L).kind (says x s.L).mv (says x s.L).part (says x s.L).code).1, 0, 0, (s.handle (says x s.L).frm (says x s.L).kind (says x s.L).mv (says x s.L).part (says x s.L).code).2)
  else (s, 0, 0, false)

set_option maxRecDepth 100000 in
set_option maxHeartbeats 800000 in
theorem one_order (c : Nat) (F : List Nat) (s : St) (x : Ac) (w : World) (h : CR w c F s) (g : Good s) (hx : x.ok) (hd : x.do_ = 0) :
    Calls Tryz.prog 32 #[.pointer (some ⟨c, 0, none⟩), .agg x.cells.toArray] w
      (CPost w c F (s.order x.part x.dst).1 (.tuple #[i64 (s.order x.part x.dst).2.1, i64 (s.order x.part x.dst).2.2, .bool false])) := by
  have hE : Ext w (w.alloc (.cells x.cells.toArray 62)) := by (refine Mod.to_ext (S := []) ?_ (by simp); repeat (first | (with_reducible exact Mod.refl _ _) | (with_reducible assumption) | (with_reducible refine Mod.alloc ?_ _) | (with_reducible refine Mod.drew ?_) | (with_reducible refine Mod.drewN ?_ _)))
  have hb : Blk (w.alloc (.cells x.cells.toArray 62)) w.heap.size x.cells 62 := Blk.new w x.cells 62
  have r0 : (w.alloc (.cells x.cells.toArray 62)).cell? ⟨w.heap.size, 0, none⟩ = some (i64 x.do_) := hb.read.1 0
  have r1 : (w.alloc (.cells x.cells.toArray 62)).cell? ⟨w.heap.size, 1, none⟩ = some (i64 x.part) := hb.read.1 1
  have r2 : (w.alloc (.cells x.cells.toArray 62)).cell? ⟨w.heap.size, 2, none⟩ = some (i64 x.dst) := hb.read.1 2
  rw [hd] at r0
  have := g.ol; have := g.la
  have R := corder_calls c F s x.part x.dst _ (h.ext hE) (by omega) (by omega) g.la0 g.mvl
  generalize s.order x.part x.dst = o at R ⊢
  obtain ⟨s', n, e⟩ := o
  have HE := Lib.hid hE
  clear hE hb g h
  go_enter Tryz.func32, Tryz.ntmps32
  go_wp2_with fail
  refine R.mono ?_
  rintro e1 w1 ⟨rfl, hS⟩
  have HS := Lib.hid hS
  clear hS R
  go_wp2_with fail
  go_ret3
  exact ⟨rfl, HS.out.pre HE.out⟩

set_option maxRecDepth 100000 in
set_option maxHeartbeats 800000 in
theorem one_abort (c : Nat) (F : List Nat) (s : St) (x : Ac) (w : World) (h : CR w c F s) (g : Good s) (hx : x.ok) (hd : x.do_ = 1) :
    Calls Tryz.prog 32 #[.pointer (some ⟨c, 0, none⟩), .agg x.cells.toArray] w
      (CPost w c F (s.abort x.part).1 (.tuple #[i64 0, i64 (s.abort x.part).2, .bool false])) := by
  have hE : Ext w (w.alloc (.cells x.cells.toArray 62)) := by (refine Mod.to_ext (S := []) ?_ (by simp); repeat (first | (with_reducible exact Mod.refl _ _) | (with_reducible assumption) | (with_reducible refine Mod.alloc ?_ _) | (with_reducible refine Mod.drew ?_) | (with_reducible refine Mod.drewN ?_ _)))
  have hb : Blk (w.alloc (.cells x.cells.toArray 62)) w.heap.size x.cells 62 := Blk.new w x.cells 62
  have r0 : (w.alloc (.cells x.cells.toArray 62)).cell? ⟨w.heap.size, 0, none⟩ = some (i64 x.do_) := hb.read.1 0
  have r1 : (w.alloc (.cells x.cells.toArray 62)).cell? ⟨w.heap.size, 1, none⟩ = some (i64 x.part) := hb.read.1 1
  rw [hd] at r0
  have R := cabort_calls c F s x.part _ (h.ext hE) g.srt
  generalize s.abort x.part = o at R ⊢
  obtain ⟨s', e⟩ := o
  have HE := Lib.hid hE
  clear hE hb g h
  go_enter Tryz.func32, Tryz.ntmps32
  go_wp2_with fail
  refine R.mono ?_
  rintro e1 w1 ⟨rfl, hS⟩
  have HS := Lib.hid hS
  clear hS R
  go_wp2_with fail
  go_ret3
  exact ⟨rfl, HS.out.pre HE.out⟩

set_option maxRecDepth 100000 in
set_option maxHeartbeats 800000 in
theorem one_none (c : Nat) (F : List Nat) (s : St) (x : Ac) (w : World) (h : CR w c F s) (hx : x.ok) (hd0 : x.do_ ≠ 0) (hd1 : x.do_ ≠ 1) (hd2 : x.do_ ≠ 2) (hd4 : x.do_ ≠ 4) :
    Calls Tryz.prog 32 #[.pointer (some ⟨c, 0, none⟩), .agg x.cells.toArray] w (CPost w c F s (.tuple #[i64 0, i64 0, .bool false])) := by
  have hE : Ext w (w.alloc (.cells x.cells.toArray 62)) := by (refine Mod.to_ext (S := []) ?_ (by simp); repeat (first | (with_reducible exact Mod.refl _ _) | (with_reducible assumption) | (with_reducible refine Mod.alloc ?_ _) | (with_reducible refine Mod.drew ?_) | (with_reducible refine Mod.drewN ?_ _)))
  have hb : Blk (w.alloc (.cells x.cells.toArray 62)) w.heap.size x.cells 62 := Blk.new w x.cells 62
  have r0 : (w.alloc (.cells x.cells.toArray 62)).cell? ⟨w.heap.size, 0, none⟩ = some (i64 x.do_) := hb.read.1 0
  have q0 : (x.do_ == 0) = false := by simpa using hd0
  have q1 : (x.do_ == 1) = false := by simpa using hd1
  have q2 : (x.do_ == 2) = false := by simpa using hd2
  have q4 : (x.do_ == 4) = false := by simpa using hd4
  have HE := Lib.hid hE
  have HH := Lib.hid h
  clear hE hb h hd0 hd1 hd2 hd4
  go_enter Tryz.func32, Tryz.ntmps32
  go_wp2_with fail
  go_ret3
  exact ⟨rfl, CStep.same HH.out HE.out⟩

attribute [local go_sem ↓] ld62_pre in
attribute [local go_sem] ld62_run in
attribute [local go_sem ↓] ld40_pre in
attribute [local go_sem] ld40_run in
set_option maxRecDepth 100000 in
set_option maxHeartbeats 800000 in
theorem one_handle (c : Nat) (F : List Nat) (s : St) (x : Ac) (w : World) (h : CR w c F s) (g : Good s) (hx : x.ok) (hd : x.do_ = 2 ∨ x.do_ = 4) :
    Calls Tryz.prog 32 #[.pointer (some ⟨c, 0, none⟩), .agg x.cells.toArray] w
      (CPost w c F (s.handle (says x s.L).frm (says x s.L).kind (says x s.L).mv (says x s.L).part (says x s.L).code).1 (.tuple #[i64 0, i64 0, .bool (s.handle (says x s.L).frm (says x s.L).kind (says x s.L).mv (says x s.L).part (says x s.L).code).2])) := by
  have hE : Ext w (w.alloc (.cells x.cells.toArray 62)) := by (refine Mod.to_ext (S := []) ?_ (by simp); repeat (first | (with_reducible exact Mod.refl _ _) | (with_reducible assumption) | (with_reducible refine Mod.alloc ?_ _) | (with_reducible refine Mod.drew ?_) | (with_reducible refine Mod.drewN ?_ _)))
  have hb : Blk (w.alloc (.cells x.cells.toArray 62)) w.heap.size x.cells 62 := Blk.new w x.cells 62
  have r0 : (w.alloc (.cells x.cells.toArray 62)).cell? ⟨w.heap.size, 0, none⟩ = some (i64 x.do_) := hb.read.1 0
  have hcr := h.ext hE
  have hl12 := g.l12
  obtain ⟨C, hC⟩ : ∃ C, C = x.cells.toArray := ⟨_, rfl⟩
  have hsz : C.size = 28 := by rw [hC]; simp [hx.cells_len]
  rw [← hC] at r0 hE hb hcr ⊢
  have HE := Lib.hid hE
  have HB := Lib.hid hb
  have HG := Lib.hid g
  have HX := Lib.hid hx
  have HC := Lib.hid hC
  have HCR := Lib.hid hcr
  clear hE hb g h hx hC hcr
  obtain ⟨D, hD⟩ : ∃ D, D = says x s.L := ⟨_, rfl⟩
  rw [← hD]
  have HD := Lib.hid hD
  clear hD
  rcases hd with hd | hd
  case' inl =>
    rw [hd] at r0
    go_enter Tryz.func32, Tryz.ntmps32
    go_wp2_with fail
  case' inr =>
    rw [hd] at r0
    go_enter Tryz.func32, Tryz.ntmps32
    go_wp2_with fail
  all_goals
    have hE2 := HE.out
    have hB2 := HB.out
    have hCR2 := HCR.out
    generalize hW : w.alloc (.cells C 62) = W at r0 hE2 hB2 hCR2 ⊢
    generalize hN : w.heap.size = N at r0 hB2 ⊢
    have hl0 : ∀ W', Ext W W' → rowAt W' ⟨N, 0, none⟩ 28 = true ∧ cellsAt W' ⟨N, 0, none⟩ 28 = C := by
      intro W' hX
      rw [HC.out]
      exact rowAt_of (fun j u hu => by rw [addr_add, Nat.zero_add, (hB2.ext hX).read.1]; exact hu) HX.out.cells_len
    obtain ⟨l1, l2⟩ := hl0 W.drew (by (refine Mod.to_ext (S := []) ?_ (by simp); repeat (first | (with_reducible exact Mod.refl _ _) | (with_reducible assumption) | (with_reducible refine Mod.alloc ?_ _) | (with_reducible refine Mod.drew ?_) | (with_reducible refine Mod.drewN ?_ _))))
    have HL := Lib.hid hl0
    have R : ∀ W', Ext W W' → Calls Tryz.prog 21 #[.pointer (some ⟨c, 0, none⟩)] W' (MovesPost s.L W') := fun W' hX => moves_calls c F s W' (hCR2.ext hX) hl12 HG.out.srt
    have R1 := R W.drew (by (refine Mod.to_ext (S := []) ?_ (by simp); repeat (first | (with_reducible exact Mod.refl _ _) | (with_reducible assumption) | (with_reducible refine Mod.alloc ?_ _) | (with_reducible refine Mod.drew ?_) | (with_reducible refine Mod.drewN ?_ _))))
    have R2 := R (W.alloc zlit).drew (by (refine Mod.to_ext (S := []) ?_ (by simp); repeat (first | (with_reducible exact Mod.refl _ _) | (with_reducible assumption) | (with_reducible refine Mod.alloc ?_ _) | (with_reducible refine Mod.drew ?_) | (with_reducible refine Mod.drewN ?_ _))))
    have hsx : ∀ (v : Value) (W' : World), MvRow W' v s.L → Calls Tryz.prog 26 #[.agg C, v] W' (SaysPost D W') := by
      intro v W' hv
      rw [HC.out, HD.out]
      exact says_calls x HX.out v s.L W' hv (by omega)
    have HSX := Lib.hid hsx
    have HCR2 := Lib.hid hCR2
    have HE2 := Lib.hid hE2
    clear hW hN hl0 R hsx hE2 hB2 hCR2
    go_region_held3 (fun w' => rowAt w' ⟨N, 0, none⟩ 28 = true ∧ cellsAt w' ⟨N, 0, none⟩ 28 = C) (first | assumption | (refine ⟨?_, ?_⟩ <;> first | assumption) | (refine HL.out _ (Mod.to_ext (S := []) ?_ (by simp)); repeat (first | (with_reducible exact Mod.refl _ _) | (with_reducible assumption) | (with_reducible refine Mod.setRow ?_ ?_ _) | (right; omega) | (with_reducible refine Mod.alloc ?_ _) | (with_reducible refine Mod.drew ?_)))) ((first
      | ((with_reducible refine R1.mono ?_); intro e w1 q1; unfold MovesPost at q1; obtain ⟨v, rfl, ho, hX1⟩ := q1; have mr := MvRow.of_own ho; clear ho; have m1 : Mod [] W w1 := (Mod.of_ext hX1).undrew'; have z1 := m1.size; have S1 := HSX.out v w1 mr; have S2 := HSX.out v (w1.alloc zlit) (mr.ext ((Below.refl _ _).alloc (Nat.le_refl _) _)); clear mr hX1)
      | ((with_reducible refine R2.mono ?_); intro e w1 q1; unfold MovesPost at q1; obtain ⟨v, rfl, ho, hX1⟩ := q1; have mr := MvRow.of_own ho; clear ho; have m1 : Mod [] W w1 := ((Mod.refl _ W).alloc _).trans (Mod.of_ext hX1).undrew'; have z1 := m1.size; have g1 : w1.heap[W.heap.size]? = some zlit := (hX1.block _ (by simp)).trans (heap_alloc_new W zlit); have S1 := HSX.out v w1 mr; clear mr hX1)
      | ((with_reducible refine S2.mono ?_); intro e w2 q2; unfold SaysPost at q2; obtain ⟨M, rfl, hM, hlen, hone, hX2⟩ := q2; have g2 := (hX2.block w1.heap.size (by simp)).trans (heap_alloc_new w1 zlit); have hst := st_row g2 hlen hone; have m2 : Mod [] W w2 := (m1.alloc _).ext hX2; have z2 := m2.size; obtain ⟨q1, q2⟩ := row_of_heap (setRow_heap _ _ _ _ 40 (0, 0) g2) hlen; have mF := m2.setRow (.inr z1) M.toArray; clear hX2 S1 S2)
      | ((with_reducible refine S1.mono ?_); intro e w2 q2; unfold SaysPost at q2; obtain ⟨M, rfl, hM, hlen, hone, hX2⟩ := q2; have g2 := (hX2.block W.heap.size (lt_of_block g1)).trans g1; have hst := st_row g2 hlen hone; have m2 : Mod [] W w2 := m1.ext hX2; have z2 := m2.size; obtain ⟨q1, q2⟩ := row_of_heap (setRow_heap _ _ _ _ 40 (0, 0) g2) hlen; have mF := m2.setRow (.inr (Nat.le_refl _)) M.toArray; clear hX2 S1)
      | ((with_reducible refine S1.mono ?_); intro e w2 q2; unfold SaysPost at q2; obtain ⟨M, rfl, hM, hlen, hone, hX2⟩ := q2; have hst := st_row (heap_alloc_new w2 zlit) hlen hone; have m2 : Mod [] W w2 := m1.ext hX2; have z2 := m2.size; obtain ⟨q1, q2⟩ := row_of_heap (setRow_heap _ _ _ _ 40 (0, 0) (heap_alloc_new w2 zlit)) hlen; have mF := (m2.alloc zlit).setRow (.inr z2) M.toArray; clear hX2 S1 S2)))
    all_goals
      have HMF := Lib.hid (Mod.to_ext mF (by simp))
      have HM := Lib.hid hM
      clear hst hM hone hlen mF m1 m2 R1 R2
      go_wp2_with fail
      refine (handle_calls c F s _ _ _ _ _ M.toArray _ (HCR2.out.ext HMF.out) HM.out HG.out.l12 HG.out.srt HG.out.par HG.out.ca (by have := HG.out.ol; omega) HG.out.may).mono ?_
      rintro e w9 ⟨rfl, hS⟩
      have HS := Lib.hid (CStep.pre (HE2.out.trans HMF.out) hS)
      clear hS
      go_wp2_with fail
      go_ret3
      exact ⟨rfl, HS.out⟩

theorem one_calls (c : Nat) (F : List Nat) (s : St) (x : Ac) (w : World) (h : CR w c F s) (g : Good s) (hx : x.ok) :
    Calls Tryz.prog 32 #[.pointer (some ⟨c, 0, none⟩), .agg x.cells.toArray] w
      (CPost w c F (s.one x).1 (.tuple #[i64 (s.one x).2.1, i64 (s.one x).2.2.1, .bool (s.one x).2.2.2])) := by
  unfold St.one
  split
  · exact one_order c F s x w h g hx (by assumption)
  split
  · exact one_abort c F s x w h g hx (by assumption)
  split
  · exact one_handle c F s x w h g hx (by assumption)
  · rename_i h0 h1 h2
    exact one_none c F s x w h hx h0 h1 (fun e => h2 (.inl e)) (fun e => h2 (.inr e))
end

section
/-- packets that lie in memory, a first one at least -/
def PkRow (w : World) (v : Value) (ps : List (Int × ByteArray)) : Prop :=
  ∃ g c, v = .slice (some ⟨g, 0, none⟩) ps.length c ∧ g < w.heap.size ∧
    ∀ (i : Nat) (hi : i < ps.length) (j : Nat) (u : Value), (pcells ps[i])[j]? = some u → w.cell? ⟨g, i * 3 + j, none⟩ = some u

theorem flat_pks (L : List (Int × ByteArray)) : ∀ (i : Nat) (hi : i < L.length) (j : Nat), j < 3 → (L.flatMap pcells)[i * 3 + j]? = (pcells L[i])[j]? := by
  induction L with
  | nil => intro i hi; simp at hi
  | cons x L ih =>
    intro i hi j hj
    rw [List.flatMap_cons]
    cases i with
    | zero => rw [Nat.zero_mul, Nat.zero_add, List.getElem?_append_left (by simpa [pcells] using hj)]; rfl
    | succ i =>
      have hl : (pcells x).length = 3 := rfl
      rw [List.getElem?_append_right (by rw [hl]; omega), hl, show (i + 1) * 3 + j - 3 = i * 3 + j by omega, ih i (by simpa using hi) j hj]
      rfl

theorem PkRow.of_row {w : World} {v : Value} {ps : List (Int × ByteArray)} (h : PRow w v ps) (hne : 0 < ps.length) : PkRow w v ps := by
  obtain ⟨hl, h2⟩ := h
  rcases h2 with ⟨e, h0⟩ | ⟨g, cap, cur, rfl, hb, hh, hc, hm, hs, ht⟩
  · omega
  · refine ⟨g, cap, rfl, lt_of_block hh, fun i hi j u hu => ?_⟩
    have hj : j < 3 := by
      rcases Nat.lt_or_ge j 3 with h1 | h1
      · exact h1
      · rw [List.getElem?_eq_none (by simpa [pcells] using h1)] at hu; cases hu
    have h1 : (cur.toList.take (ps.length * 3))[i * 3 + j]? = (ps.flatMap pcells)[i * 3 + j]? := by rw [ht]
    rw [List.getElem?_take, if_pos (by omega), flat_pks ps i hi j hj, hu] at h1
    simp only [World.cell?, hh, Option.isSome_none, Bool.false_eq_true, if_false]
    rw [← Array.getElem?_toList, h1]

theorem PkRow.ext {w w' : World} {v : Value} {ps : List (Int × ByteArray)} (h : PkRow w v ps) (e : Ext w w') : PkRow w' v ps := by
  obtain ⟨g, c, hv, hb, hc⟩ := h
  exact ⟨g, c, hv, Nat.lt_of_lt_of_le hb e.size, fun i hi j u hu => (e.cell (p := ⟨g, _, none⟩) hb).trans (hc i hi j u hu)⟩

set_option maxRecDepth 100000 in
set_option maxHeartbeats 800000 in
theorem packets_calls (v1 v2 : Value) (ps : List (Int × ByteArray)) (w : World) (h1 : PkRow w v1 ps) (h2 : PkRow w v2 ps) (hl : ps.length ≤ 10000) :
    Calls Tryz.prog 28 #[v1, v2] w (fun e w' => e = .returned (.bool true) ∧ Ext w w') := by
  obtain ⟨g1, k1, rfl, hb1, c1⟩ := h1
  obtain ⟨g2, k2, rfl, hb2, c2⟩ := h2
  have H1 := Lib.hid c1
  have H2 := Lib.hid c2
  clear c1 c2
  go_enter Tryz.func28, Tryz.ntmps28
  go_wp2_with fail
  go_loopw [5] (fun i wr => ∃ k : Nat, k ≤ ps.length ∧ i = i64 k ∧ Ext w wr) (fun i _ => ps.length - (intOf i).toNat)
  case atStart => exact ⟨0, by omega, rfl, Below.refl _ _⟩
  case round =>
    obtain ⟨k, hk, rfl, hE⟩ := hrel
    have HE := Lib.hid hE
    by_cases hlt : k < ps.length
    · have a1 := fun j u hu => (hE.cell (p := ⟨g1, k * 3 + j, none⟩) hb1).trans (H1.out k hlt j u hu)
      have a2 := fun j u hu => (hE.cell (p := ⟨g2, k * 3 + j, none⟩) hb2).trans (H2.out k hlt j u hu)
      have a10 : wr.cell? ⟨g1, k * 3, none⟩ = _ := a1 0 _ rfl
      have a11 := a1 1 _ rfl
      have a12 := a1 2 _ rfl
      have a20 : wr.cell? ⟨g2, k * 3, none⟩ = _ := a2 0 _ rfl
      have a21 := a2 1 _ rfl
      have a22 := a2 2 _ rfl
      clear a1 a2 hE
      generalize ps[k] = p at a10 a11 a12 a20 a21 a22
      go_wp2_with fail
      go_quiet (fail)
      go_wp2_with fail
      go_roundw
      case rel => exact ⟨k + 1, by omega, by go_num, HE.out.trans (by (refine Mod.to_ext (S := []) ?_ (by simp); repeat (first | (with_reducible exact Mod.refl _ _) | (with_reducible assumption) | (with_reducible refine Mod.alloc ?_ _) | (with_reducible refine Mod.drew ?_) | (with_reducible refine Mod.drewN ?_ _))))⟩
      case measure => simp [intOf]; omega
    · clear hE
      go_wp2_with fail
      go_ret
      exact ⟨rfl, HE.out⟩
end
end Go.Proofs.YtchmhkdnegngdaaGreat
