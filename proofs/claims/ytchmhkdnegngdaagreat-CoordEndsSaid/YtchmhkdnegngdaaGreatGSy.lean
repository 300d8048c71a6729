/- Says. -/
import Derived.Test.YtchmhkdnegngdaaGreatGAc
set_option linter.unusedVariables false
set_option linter.unusedSimpArgs false
namespace Go.Proofs.YtchmhkdnegngdaaGreat
open Go.RowKit

section
/-- moves that lie in memory -/
def MvRow (w : World) (v : Value) (L : List Mv) : Prop :=
  ∃ A c, v = .slice A L.length c ∧ (L ≠ [] → ∃ b, A = some ⟨b, 0, none⟩ ∧ b < w.heap.size ∧
    ∀ (i : Nat) (hi : i < L.length) (j : Nat) (u : Value), (mvcells L[i])[j]? = some u → w.cell? ⟨b, i * 6 + j, none⟩ = some u)

theorem flat_mv (L : List Mv) : ∀ (i : Nat) (hi : i < L.length) (j : Nat), j < 6 → (L.flatMap mvcells)[i * 6 + j]? = (mvcells L[i])[j]? := by
  induction L with
  | nil => intro i hi; simp at hi
  | cons x L ih =>
    intro i hi j hj
    rw [List.flatMap_cons]
    cases i with
    | zero => rw [Nat.zero_mul, Nat.zero_add, List.getElem?_append_left (by simpa [mvcells] using hj)]; rfl
    | succ i =>
      have hl : (mvcells x).length = 6 := rfl
      rw [List.getElem?_append_right (by rw [hl]; omega), hl, show (i + 1) * 6 + j - 6 = i * 6 + j by omega, ih i (by simpa using hi) j hj]
      rfl

theorem MvRow.of_own {w : World} {base : Nat} {v : Value} {L : List Mv} (h : w.ownsRow base 77 6 v L.length (L.flatMap mvcells)) : MvRow w v L := by
  obtain ⟨hl, h2⟩ := h
  rcases h2 with ⟨e, h0⟩ | ⟨g, cap, cur, rfl, hb, hh, hc, hm, hs, ht⟩
  · exact ⟨none, 0, by rw [e, h0], fun hn => absurd (List.length_eq_zero_iff.1 h0) hn⟩
  · refine ⟨_, cap, rfl, fun _ => ⟨g, rfl, lt_of_block hh, fun i hi j u hu => ?_⟩⟩
    have hj : j < 6 := by
      rcases Nat.lt_or_ge j 6 with h1 | h1
      · exact h1
      · rw [List.getElem?_eq_none (by simpa [mvcells] using h1)] at hu; cases hu
    have h1 : (cur.toList.take (L.length * 6))[i * 6 + j]? = (L.flatMap mvcells)[i * 6 + j]? := by rw [ht]
    rw [List.getElem?_take, if_pos (by omega), flat_mv L i hi j hj, hu] at h1
    simp only [World.cell?, hh, Option.isSome_none, Bool.false_eq_true, if_false]
    rw [← Array.getElem?_toList, h1]

theorem MvRow.ext {w w' : World} {v : Value} {L : List Mv} (h : MvRow w v L) (e : Ext w w') : MvRow w' v L := by
  obtain ⟨A, c, hv, h⟩ := h
  refine ⟨A, c, hv, fun hn => ?_⟩
  obtain ⟨b, hA, hb, hc⟩ := h hn
  exact ⟨b, hA, Nat.lt_of_lt_of_le hb e.size, fun i hi j u hu => (e.cell (p := ⟨b, _, none⟩) hb).trans (hc i hi j u hu)⟩

section
variable {P : Program}
theorem run_storeCells_row (w : World) (g : Nat) (cs : List Value) (old : Array Value) (t : TypeId) (hg : w.heap[g]? = some (.cells old t (0, 0))) (hold : old.size = cs.length) (h1 : ∀ u ∈ cs, u.oneCell' = true) :
    (storeCells ⟨g, 0, none⟩ cs).run P w = .ok () (w.setRow g cs.toArray) := by
  have h := run_storeCells_from (P := P) g t cs 0 old w hg (by omega) h1
  simpa using h
end

theorem st_ncells {W w9 : World} {N : Nat} (hG : W.heap[N]? = some zlit) (hX : Ext W.drew w9) (k mv part code : Int) :
    (storeCells ⟨N, 0, none⟩ (ncells k mv part code)).run Tryz.prog w9 = .ok () (w9.setRow N (ncells k mv part code).toArray) := by
  refine run_storeCells_row w9 N _ _ 40 ((hX.block N (lt_of_block hG)).trans hG) rfl (fun u hu => ?_)
  have := ncells_one k mv part code
  rw [Array.all_eq_true_iff_forall_mem] at this
  exact this u (by simpa using hu)

theorem nc_one (k mv part code : Int) : ∀ u ∈ ncells k mv part code, u.oneCell' = true := by
  have := ncells_one k mv part code
  rw [Array.all_eq_true_iff_forall_mem] at this
  exact fun u hu => this u (by simpa using hu)

/-- which move an act's message speaks of -/
def sayK (x : Ac) (n : Nat) : Nat := (x.of_.tmod n).natAbs
def odd (n : Int) : Bool := bits BinOp.and IntKind.i64 n 1 == 1
def sayMv (x : Ac) (L : List Mv) : Mv := L.getD (sayK x L.length) ⟨0, 0, 0, 0, 0, 0⟩
/-- from whom, and what -/
structure Sd where
  frm : Int
  kind : Int
  mv : Int
  part : Int
  code : Int
def says (x : Ac) (L : List Mv) : Sd :=
  if x.do_ ≠ 4 ∨ L = [] then ⟨x.frm, x.kind, x.mv, x.mpart, x.mcode⟩
  else
    if odd x.part then ⟨if odd x.dst then (sayMv x L).fr else (sayMv x L).dst, 13, (sayMv x L).mv, (sayMv x L).part, 0⟩
    else ⟨if odd x.dst then (sayMv x L).fr else (sayMv x L).dst, 10, (sayMv x L).mv, (sayMv x L).part, x.code⟩

def SaysPost (d : Sd) (w : World) (e : Ending) (w' : World) : Prop :=
  ∃ C : List Value, e = .returned (.tuple #[i64 d.frm, .agg C.toArray]) ∧ MsgC C.toArray d.kind d.mv d.part d.code ∧ C.length = 22 ∧ (∀ u ∈ C, u.oneCell' = true) ∧ Ext w w'

theorem still_load_at {P : Program} {o : Oper} {a : Act} {w : World} {next : Act → Prop} (ty : TypeId) (x : Operand) (ho : o.op = .load ty x)
    (p : Addr) (hx : a.eval x = .pointer (some p)) (cs : List Value) (d : TypeDesc) (hc : ∀ (j : Nat) (u : Value), cs[j]? = some u → w.cell? (p.add j) = some u)
    (hu : P.underlying ty = some d) (hd : (match d with | .struct _ | .array _ _ => true | _ => false) = true) (hi : (P.info? ty).map (·.size) = some cs.length)
    (h : next (a.put o.dst (.agg cs.toArray))) : o.still P a w next := by
  unfold Oper.still execOp
  simp only [ho, hx, Instr.loadAt, Instr.sureAddr, Sem.run_bind, Sem.run_pure, Result.andThen_ok, run_loadVar_at w p ty cs d hc hu hd hi]
  rw [Oper.stillUpon_value]
  exact h

theorem results_tmp_cell_row {P : Program} {fn : Func} {q p : Tmp} {ty : TypeId} (h : fn.results = #[.tmp q, .cell p ty]) (tmps : Array Value) (w : World) (g : Nat) (t : TypeId) (cs : Array Value) (fr : Nat × Nat) (d : TypeDesc)
    (hp : tmps.getD p undef = .pointer (some ⟨g, 0, none⟩)) (hg : w.heap[g]? = some (.cells cs t fr))
    (hu : P.underlying ty = some d) (hd : (match d with | .struct _ | .array _ _ => true | _ => false) = true) (hi : (P.info? ty).map (·.size) = some cs.size) :
    (results fn tmps).run P w = .ok (.tuple #[tmps.getD q undef, .agg cs]) w := by
  have hp' : tmps[p]?.getD undef = .pointer (some ⟨g, 0, none⟩) := by simpa using hp
  simp [results, h, hp', asAddr, run_loadVar_row w g t ty cs fr d hg hu hd hi]

set_option maxRecDepth 100000 in
set_option maxHeartbeats 800000 in
theorem says_own (x : Ac) (hx : x.ok) (v : Value) (L : List Mv) (w : World) (h : MvRow w v L) (hd : x.do_ ≠ 4 ∨ L = []) :
    Calls Tryz.prog 26 #[.agg x.cells.toArray, v] w (SaysPost (says x L) w) := by
  have hs : says x L = ⟨x.frm, x.kind, x.mv, x.mpart, x.mcode⟩ := by unfold says; rw [if_pos hd]
  rw [hs]
  clear hs
  obtain ⟨A, c, rfl, _⟩ := h
  have hb : Blk ((w.alloc (.cells x.cells.toArray 62)).alloc zlit) w.heap.size x.cells 62 := (Blk.new w x.cells 62).old _
  have r0 : ((w.alloc (.cells x.cells.toArray 62)).alloc zlit).cell? ⟨w.heap.size, 0, none⟩ = some (i64 x.do_) := hb.read.1 0
  have r3 : ((w.alloc (.cells x.cells.toArray 62)).alloc zlit).cell? ⟨w.heap.size, 3, none⟩ = some (i64 x.frm) := hb.read.1 3
  have G : Hid (((w.alloc (.cells x.cells.toArray 62)).alloc zlit).heap[w.heap.size + 1]? = some zlit) := Lib.hid (by have := heap_alloc_new (w.alloc (.cells x.cells.toArray 62)) zlit; simpa only [World.size_alloc] using this)
  obtain ⟨C, hC⟩ : ∃ C, C = x.cells.toArray := ⟨_, rfl⟩
  rw [← hC] at r0 r3 G hb ⊢
  have hM : ∀ (j : Nat) (u : Value), x.M[j]? = some u → ((w.alloc (.cells C 62)).alloc zlit).cell? ((⟨w.heap.size, 4, none⟩ : Addr).add j) = some u := by
    have := msg_add (w := (w.alloc (.cells C 62)).alloc zlit) (b := w.heap.size) (o := 0) hx (by intro j u hu; rw [addr_add, Nat.zero_add, hb.read.1]; exact hu)
    simpa only [Nat.zero_add] using this
  have HM := Lib.hid hM
  have HB := Lib.hid hb
  have HC := Lib.hid hC
  have HX := Lib.hid hx
  clear hM hb hC hx
  have hcase : x.do_ = 4 ∧ L = [] ∨ (x.do_ != 4) = true := by
    by_cases h4 : x.do_ = 4
    · exact .inl ⟨h4, hd.resolve_left (fun e => e h4)⟩
    · exact .inr (by simpa using h4)
  clear hd
  rcases hcase with ⟨hdo, rfl⟩ | hdb
  case' inl =>
    rw [hdo] at r0
    clear hdo
    simp only [List.length_nil]
    go_enter Tryz.func26, Tryz.ntmps26
    go_wp2_with fail
  case' inr =>
    go_enter Tryz.func26, Tryz.ntmps26
    go_wp2_with fail
  all_goals
    have hE : Ext w ((w.alloc (.cells C 62)).alloc zlit) := by (refine Mod.to_ext (S := []) ?_ (by simp); repeat (first | (with_reducible exact Mod.refl _ _) | (with_reducible assumption) | (with_reducible refine Mod.alloc ?_ _) | (with_reducible refine Mod.drew ?_) | (with_reducible refine Mod.drewN ?_ _)))
    revert r0 r3 G HM HB hE
    generalize hN : w.heap.size = N
    generalize hW : World.alloc (w.alloc _) _ = W
    clear hW
    intro G r3 r0 HM HB hE
    go_still_tail 5, (by kernel_rfl)
    refine wpStill_step (fun K hK => ?_)
    refine still_load_at 40 (.tmp 18) rfl ⟨N, 4, none⟩ rfl x.M _ HM.out Tryz.underlying40 rfl (by rw [HX.out.len]; kernel_rfl) (hK _ ?_)
    clear hK K
    repeat still_step
    refine wpStill_nil ?_
    change wpList _ _ _ _ _ W.drew
    refine wpList_store_row rfl 40 (.tmp 5) (.tmp 19) rfl (N + 1) x.M.toArray rfl rfl 40 _ (show W.drew.heap[N + 1]? = some zlit from G.out) HX.out.info HX.out.size22' HX.out.all ?_
    go_wp2_with fail
    refine bodyPost_ret (results_tmp_cell_row rfl _ _ (N + 1) 40 x.M.toArray (0, 0) _ rfl (setRow_heap _ _ _ _ 40 (0, 0) (show W.drew.heap[N + 1]? = some zlit from G.out)) Tryz.underlying40 rfl HX.out.info) rfl ?_
    unfold SaysPost
    refine ⟨x.M, rfl, HX.out.msg, HX.out.len, HX.out.one, ?_⟩
    subst hN
    exact (((Mod.of_ext (S := []) hE).drew).setRow (by right; omega) _).to_ext (by simp)

set_option maxRecDepth 100000 in
set_option maxHeartbeats 800000 in
theorem says_move (x : Ac) (hx : x.ok) (v : Value) (L : List Mv) (w : World) (h : MvRow w v L) (hd : x.do_ = 4) (hL : L ≠ []) (hl : L.length ≤ 4096) :
    Calls Tryz.prog 26 #[.agg x.cells.toArray, v] w (SaysPost (says x L) w) := by
  have hs : says x L = if odd x.part then ⟨if odd x.dst then (sayMv x L).fr else (sayMv x L).dst, 13, (sayMv x L).mv, (sayMv x L).part, 0⟩
    else ⟨if odd x.dst then (sayMv x L).fr else (sayMv x L).dst, 10, (sayMv x L).mv, (sayMv x L).part, x.code⟩ := by unfold says; rw [if_neg (by simp [hd, hL])]
  generalize says x L = D at hs ⊢
  have HD := Lib.hid hs
  clear hs
  obtain ⟨A, c, rfl, h⟩ := h
  obtain ⟨b, rfl, hbl, hc⟩ := h hL
  have hpos : 0 < L.length := List.length_pos_iff.2 hL
  have hposI : (0 : Int) < L.length := by omega
  have hb : Blk ((w.alloc (.cells x.cells.toArray 62)).alloc zlit) w.heap.size x.cells 62 := (Blk.new w x.cells 62).old _
  have r0 : ((w.alloc (.cells x.cells.toArray 62)).alloc zlit).cell? ⟨w.heap.size, 0, none⟩ = some (i64 x.do_) := hb.read.1 0
  have r1 : ((w.alloc (.cells x.cells.toArray 62)).alloc zlit).cell? ⟨w.heap.size, 1, none⟩ = some (i64 x.part) := hb.read.1 1
  have r2 : ((w.alloc (.cells x.cells.toArray 62)).alloc zlit).cell? ⟨w.heap.size, 2, none⟩ = some (i64 x.dst) := hb.read.1 2
  have r5 : ((w.alloc (.cells x.cells.toArray 62)).alloc zlit).cell? ⟨w.heap.size, 26, none⟩ = some (i64 x.of_) := (hb.read.1 26).trans hx.cells_hi.1
  have r6 : ((w.alloc (.cells x.cells.toArray 62)).alloc zlit).cell? ⟨w.heap.size, 27, none⟩ = some (i64 x.code) := (hb.read.1 27).trans hx.cells_hi.2
  have G : Hid (((w.alloc (.cells x.cells.toArray 62)).alloc zlit).heap[w.heap.size + 1]? = some zlit) := Lib.hid (by have := heap_alloc_new (w.alloc (.cells x.cells.toArray 62)) zlit; simpa only [World.size_alloc] using this)
  obtain ⟨C, hC⟩ : ∃ C, C = x.cells.toArray := ⟨_, rfl⟩
  rw [← hC] at r0 r1 r2 r5 r6 G hb ⊢
  rw [hd] at r0
  have HC := Lib.hid hC
  have HX := Lib.hid hx
  have HL := Lib.hid hL
  clear hC hx hL hb hd h
  go_enter Tryz.func26, Tryz.ntmps26
  go_upto_region 4 with (fail)
  obtain ⟨k, hk, hkn, hsg⟩ : ∃ k : Nat, k = sayK x L.length ∧ k < L.length ∧ (x.of_.tmod (L.length : Int) = (k : Int) ∨ (0 : Int) < (k : Int) ∧ x.of_.tmod (L.length : Int) = -(k : Int)) := by
    refine ⟨_, rfl, ?_⟩
    unfold sayK
    have h1 := Int.tmod_lt_of_pos x.of_ hposI
    have h2 := Int.lt_tmod_of_pos x.of_ hposI
    omega
  have c0 : ((w.alloc (.cells C 62)).alloc zlit).cell? ⟨b, k * 6, none⟩ = some (i64 L[k].mv) := by
    have := (show Ext w ((w.alloc (.cells C 62)).alloc zlit) by (refine Mod.to_ext (S := []) ?_ (by simp); repeat (first | (with_reducible exact Mod.refl _ _) | (with_reducible assumption) | (with_reducible refine Mod.alloc ?_ _) | (with_reducible refine Mod.drew ?_) | (with_reducible refine Mod.drewN ?_ _)))).cell (p := ⟨b, k * 6, none⟩) hbl
    exact this.trans (hc k hkn 0 _ rfl)
  have cx : ∀ j u, (mvcells L[k])[j]? = some u → ((w.alloc (.cells C 62)).alloc zlit).cell? ⟨b, k * 6 + j, none⟩ = some u := by
    intro j u hu
    have := (show Ext w ((w.alloc (.cells C 62)).alloc zlit) by (refine Mod.to_ext (S := []) ?_ (by simp); repeat (first | (with_reducible exact Mod.refl _ _) | (with_reducible assumption) | (with_reducible refine Mod.alloc ?_ _) | (with_reducible refine Mod.drew ?_) | (with_reducible refine Mod.drewN ?_ _)))).cell (p := ⟨b, k * 6 + j, none⟩) hbl
    exact this.trans (hc k hkn j _ hu)
  have c1 := cx 1 _ rfl
  have c2 := cx 2 _ rfl
  have c3 := cx 3 _ rfl
  have HK := Lib.hid hk
  clear cx hc hk
  generalize hmv : L[k] = m at c0 c1 c2 c3
  have HMV := Lib.hid hmv
  clear hmv
  have hE : Ext w ((w.alloc (.cells C 62)).alloc zlit) := by (refine Mod.to_ext (S := []) ?_ (by simp); repeat (first | (with_reducible exact Mod.refl _ _) | (with_reducible assumption) | (with_reducible refine Mod.alloc ?_ _) | (with_reducible refine Mod.drew ?_) | (with_reducible refine Mod.drewN ?_ _)))
  have hkn' : (k : Int) < L.length := by omega
  have hbne : b ≠ w.heap.size + 1 := by omega
  have hbW : b < ((w.alloc (.cells C 62)).alloc zlit).heap.size := Nat.lt_of_lt_of_le hbl hE.size
  have hcne : w.heap.size ≠ w.heap.size + 1 := by omega
  have hcW : w.heap.size < ((w.alloc (.cells C 62)).alloc zlit).heap.size := by simp; omega
  have hsm : sayMv x L = m := by
    unfold sayMv
    rw [← HK.out, List.getD_eq_getElem?_getD, List.getElem?_eq_getElem hkn, HMV.out]; rfl
  have HSM := Lib.hid hsm
  clear hsm
  rcases hsg with e | ⟨hk0, e⟩
  case' inr => have hneg : decide (-(k : Int) < 0) = true := by simp; omega
  case' inr => have hkp : 0 < k := by omega
  case' inr => have hk9 : (k : Int) ≤ 4096 := by omega
  all_goals
    rw [e]
    have HE := Lib.hid e
    clear e
    rcases Bool.eq_false_or_eq_true (bits BinOp.and IntKind.i64 x.dst 1 == 1) with h2 | h2
    all_goals
      rcases Bool.eq_false_or_eq_true (bits BinOp.and IntKind.i64 x.part 1 == 1) with h1 | h1
      all_goals
        go_wp2_with fail
      · generalize hW : (w.alloc (.cells C 62)).alloc zlit = W at hE hbW hcW G c0 c1 c2 c3 r0 r1 r2 r5 r6 ⊢
        clear hW
        go_region_held3 (fun w' => w'.cell? ⟨b, k * 6, none⟩ = some (i64 m.mv) ∧ w'.cell? ⟨b, k * 6 + 1, none⟩ = some (i64 m.part)) (first | assumption | (refine ⟨?_, ?_⟩ <;> first | assumption | (simp [*, go_sem]; done))) (((with_reducible refine (mdone_calls m.mv m.part _).mono ?_); rintro e w9 ⟨rfl, hX⟩; have hst := st_ncells G.out hX 13 m.mv m.part 0; have d0 := (hX.cell (p := ⟨b, k * 6, none⟩) hbW).trans c0; have d1 := (hX.cell (p := ⟨b, k * 6 + 1, none⟩) hbW).trans c1; have d2 := (cell_setRow_other w9 (w.heap.size + 1) (ncells 13 m.mv m.part 0).toArray ⟨b, k * 6, none⟩ hbne).trans d0; have d3 := (cell_setRow_other w9 (w.heap.size + 1) (ncells 13 m.mv m.part 0).toArray ⟨b, k * 6 + 1, none⟩ hbne).trans d1))
        go_wp2_with fail
        refine bodyPost_ret (results_tmp_cell_row rfl _ _ (w.heap.size + 1) 40 (ncells 13 m.mv m.part 0).toArray (0, 0) _ rfl (setRow_heap _ _ _ _ 40 (0, 0) ((hX.block (w.heap.size + 1) (lt_of_block G.out)).trans G.out)) Tryz.underlying40 rfl info40) rfl ?_
        rw [HD.out, show odd x.part = true from h1, HSM.out]
        unfold SaysPost
        refine ⟨ncells 13 m.mv m.part 0, ?_, ncells_msg .., rfl, nc_one _ _ _ _, ((Mod.of_ext (S := []) hE).drew.ext hX |>.setRow (by right; omega) _).to_ext (by simp)⟩
        first
        | (rw [show odd x.dst = true from h2]; rfl)
        | (rw [show odd x.dst = false from h2]; rfl)
      · generalize hW : (w.alloc (.cells C 62)).alloc zlit = W at hE hbW hcW G c0 c1 c2 c3 r0 r1 r2 r5 r6 ⊢
        clear hW
        go_region_held3 (fun w' => w'.cell? ⟨b, k * 6, none⟩ = some (i64 m.mv) ∧ w'.cell? ⟨b, k * 6 + 1, none⟩ = some (i64 m.part) ∧ w'.cell? ⟨w.heap.size, 27, none⟩ = some (i64 x.code)) (first | assumption | (refine ⟨?_, ?_, ?_⟩ <;> first | assumption | (simp [*, go_sem]; done))) (((with_reducible refine (mready_calls m.mv m.part x.code _).mono ?_); rintro e w9 ⟨rfl, hX⟩; have hst := st_ncells G.out hX 10 m.mv m.part x.code; have d0 := (hX.cell (p := ⟨b, k * 6, none⟩) hbW).trans c0; have d1 := (hX.cell (p := ⟨b, k * 6 + 1, none⟩) hbW).trans c1; have d2 := (cell_setRow_other w9 (w.heap.size + 1) (ncells 10 m.mv m.part x.code).toArray ⟨b, k * 6, none⟩ hbne).trans d0; have d3 := (cell_setRow_other w9 (w.heap.size + 1) (ncells 10 m.mv m.part x.code).toArray ⟨b, k * 6 + 1, none⟩ hbne).trans d1; have d4 := (hX.cell (p := ⟨w.heap.size, 27, none⟩) hcW).trans r6; have d5 := (cell_setRow_other w9 (w.heap.size + 1) (ncells 10 m.mv m.part x.code).toArray ⟨w.heap.size, 27, none⟩ hcne).trans d4))
        go_wp2_with fail
        refine bodyPost_ret (results_tmp_cell_row rfl _ _ (w.heap.size + 1) 40 (ncells 10 m.mv m.part x.code).toArray (0, 0) _ rfl (setRow_heap _ _ _ _ 40 (0, 0) ((hX.block (w.heap.size + 1) (lt_of_block G.out)).trans G.out)) Tryz.underlying40 rfl info40) rfl ?_
        rw [HD.out, show odd x.part = false from h1, HSM.out]
        unfold SaysPost
        refine ⟨ncells 10 m.mv m.part x.code, ?_, ncells_msg .., rfl, nc_one _ _ _ _, ((Mod.of_ext (S := []) hE).drew.ext hX |>.setRow (by right; omega) _).to_ext (by simp)⟩
        first
        | (rw [show odd x.dst = true from h2]; rfl)
        | (rw [show odd x.dst = false from h2]; rfl)

theorem says_calls (x : Ac) (hx : x.ok) (v : Value) (L : List Mv) (w : World) (h : MvRow w v L) (hl : L.length ≤ 4096) :
    Calls Tryz.prog 26 #[.agg x.cells.toArray, v] w (SaysPost (says x L) w) := by
  by_cases hd : x.do_ ≠ 4 ∨ L = []
  · exact says_own x hx v L w h hd
  · exact says_move x hx v L w h (Classical.not_not.1 (fun e => hd (.inl e))) (fun e => hd (.inr e)) hl
end
end Go.Proofs.YtchmhkdnegngdaaGreat
