/- The laws' acts in memory; Great. -/
import Derived.Test.YtchmhkdnegngdaaGreatGLa
set_option linter.unusedVariables false
set_option linter.unusedSimpArgs false
namespace Go.Proofs.YtchmhkdnegngdaaGreat
open Go.RowKit

section
section
variable {P : Program}
theorem run_loadVar_at (w : World) (p : Addr) (ty : TypeId) (cs : List Value) (d : TypeDesc) (hc : ∀ (j : Nat) (u : Value), cs[j]? = some u → w.cell? (p.add j) = some u)
    (hu : P.underlying ty = some d) (hd : (match d with | .struct _ | .array _ _ => true | _ => false) = true) (hi : (P.info? ty).map (·.size) = some cs.length) :
    (loadVar ty p).run P w = .ok (.agg cs.toArray) w := by
  have hl : (loadCells p cs.length).run P w = .ok cs.toArray w := run_loadCells_list (P := P) w p cs hc
  cases hq : P.info? ty with
  | none => simp [hq] at hi
  | some i =>
    have hs : i.size = cs.length := by simpa [hq] using hi
    have hagg : (isAgg ty).run P w = .ok true w := by
      unfold isAgg
      rw [Sem.run_bind, run_underlying hu w]
      cases d <;> simp_all
    simp [loadVar, Sem.run_bind, hagg, sizeOf, typeInfo, hq, hs, hl]

theorem wpList_load_at {ops : Array Oper} {rest : List Oper} {o : Oper} {a : Act} {w : World} {Q : Exit → Act → World → Prop} (hgd : o.guard = none) (ty : TypeId) (x : Operand) (ho : o.op = .load ty x)
    (p : Addr) (hx : a.eval x = .pointer (some p)) (cs : List Value) (d : TypeDesc) (hc : ∀ (j : Nat) (u : Value), cs[j]? = some u → w.cell? (p.add j) = some u)
    (hu : P.underlying ty = some d) (hd : (match d with | .struct _ | .array _ _ => true | _ => false) = true) (hi : (P.info? ty).map (·.size) = some cs.length)
    (h : wpList P ops Q rest (a.put o.dst (.agg cs.toArray)) w) : wpList P ops Q (o :: rest) a w :=
  wpList_plain hgd fun K hK => by
    unfold Oper.wp execOp
    simp only [ho, hx, Instr.loadAt, Instr.sureAddr, Sem.run_bind, Sem.run_pure, Result.andThen_ok, run_loadVar_at w p ty cs d hc hu hd hi]
    exact hK _ _ h
end

/-- an act: its numbers, its message's cells -/
structure Ac where
  do_ : Int
  part : Int
  dst : Int
  frm : Int
  M : List Value
  of_ : Int
  code : Int
  kind : Int
  mv : Int
  mpart : Int
  mcode : Int
  l1 : Nat
  l2 : Nat
  s1 : ByteArray
  s2 : ByteArray

def Ac.cells (x : Ac) : List Value := [i64 x.do_, i64 x.part, i64 x.dst, i64 x.frm] ++ (x.M ++ [i64 x.of_, i64 x.code])

/-- the message of an act, so far as it is looked at -/
structure Ac.ok (x : Ac) : Prop where
  len : x.M.length = 22
  one : ∀ u ∈ x.M, u.oneCell' = true
  msg : MsgC x.M.toArray x.kind x.mv x.mpart x.mcode
  set : ∃ a c, x.M[20]? = some (.slice a x.l1 c)
  own : ∃ a c, x.M[19]? = some (.slice a x.l2 c)
  dat : x.M[21]? = some (.string x.s1)
  key : x.M[13]? = some (.string x.s2)

theorem Ac.ok.info {x : Ac} (h : x.ok) : (Tryz.prog.info? 40).map (·.size) = some x.M.toArray.size := by rw [List.size_toArray, h.len]; kernel_rfl
theorem Ac.ok.size22 {x : Ac} (h : x.ok) : (mcells 0 0 0 0 0 0 (.slice none 0 0) (.slice none 0 0)).toArray.size = x.M.toArray.size := (by rfl : _ = 22).trans (by rw [List.size_toArray, h.len])
theorem Ac.ok.all {x : Ac} (h : x.ok) : x.M.toArray.all (·.oneCell') = true := by
  rw [Array.all_eq_true_iff_forall_mem]
  intro u hu
  exact h.one u (by simpa using hu)
theorem Ac.ok.cells_len {x : Ac} (h : x.ok) : x.cells.length = 28 := by simp [Ac.cells, h.len]
theorem Ac.ok.cells_msg {x : Ac} (h : x.ok) {j : Nat} (hj : j < 22) : x.cells[4 + j]? = x.M[j]? := by
  unfold Ac.cells
  rw [List.getElem?_append_right (by simp), List.getElem?_append_left (by simp [h.len]; omega)]
  simp
theorem Ac.ok.cells_hi {x : Ac} (h : x.ok) : x.cells[26]? = some (i64 x.of_) ∧ x.cells[27]? = some (i64 x.code) := by
  unfold Ac.cells
  constructor
  · rw [List.getElem?_append_right (by simp), List.getElem?_append_right (by simp [h.len])]; simp [h.len]
  · rw [List.getElem?_append_right (by simp), List.getElem?_append_right (by simp [h.len])]; simp [h.len]

/-- acts that lie in memory, from the address A on -/
def Acts (w : World) (A : Option Addr) (xs : List Ac) : Prop :=
  (∀ x ∈ xs, x.ok) ∧ (xs ≠ [] → ∃ b off, A = some ⟨b, off, none⟩ ∧ b < w.heap.size ∧
    ∀ (i : Nat) (hi : i < xs.length) (j : Nat) (u : Value), (xs[i]).cells[j]? = some u → w.cell? ⟨b, off + i * 28 + j, none⟩ = some u)

theorem Acts.ext {w w' : World} {A : Option Addr} {xs : List Ac} (h : Acts w A xs) (e : Ext w w') : Acts w' A xs := by
  refine ⟨h.1, fun hne => ?_⟩
  obtain ⟨b, off, hA, hb, hc⟩ := h.2 hne
  refine ⟨b, off, hA, Nat.lt_of_lt_of_le hb e.size, fun i hi j u hu => ?_⟩
  rw [e.cell (p := ⟨b, _, none⟩) hb]; exact hc i hi j u hu

theorem Acts.at {w : World} {A : Option Addr} {xs : List Ac} (h : Acts w A xs) {k : Nat} (hk : k < xs.length) :
    ∃ b off, A = some ⟨b, off, none⟩ ∧ b < w.heap.size ∧ (∀ (j : Nat) (u : Value), (xs[k]).cells[j]? = some u → w.cell? ((⟨b, off + k * 28, none⟩ : Addr).add j) = some u) ∧ (xs[k]).ok := by
  obtain ⟨b, off, hA, hb, hc⟩ := h.2 (fun e => by subst e; simp at hk)
  exact ⟨b, off, hA, hb, fun j u hu => by rw [addr_add]; exact hc k hk j u hu, h.1 _ (List.getElem_mem hk)⟩

theorem msg_add {w : World} {b o : Nat} {x : Ac} (hx : x.ok) (h : ∀ (j : Nat) (u : Value), x.cells[j]? = some u → w.cell? ((⟨b, o, none⟩ : Addr).add j) = some u) :
    ∀ (j : Nat) (u : Value), x.M[j]? = some u → w.cell? ((⟨b, o + 4, none⟩ : Addr).add j) = some u := by
  intro j u hu
  have hj : j < 22 := by
    rcases Nat.lt_or_ge j 22 with h1 | h1
    · exact h1
    · rw [List.getElem?_eq_none (by rw [hx.len]; exact h1)] at hu; cases hu
  have := h (4 + j) u (by rw [hx.cells_msg hj]; exact hu)
  rw [addr_add] at this ⊢
  rw [Nat.add_assoc]; exact this

/-- a message's zero, spelled out -/
abbrev zlit : Obj := .cells #[.int .u8 0, .int .i64 0, .int .i64 0, .int .i64 0, .int .i64 0, .int .i64 0, .int .i64 0, .int .u64 0, .int .i64 0, .int .i64 0, .int .i64 0, .int .i64 0, .int .u8 0, .string ⟨#[]⟩, .int .i64 0, .int .i64 0, .int .i64 0, .int .i64 0, .int .i64 0, .slice none 0 0, .slice none 0 0, .string ⟨#[]⟩] 40
theorem Ac.ok.size22' {x : Ac} (h : x.ok) : (#[.int .u8 0, .int .i64 0, .int .i64 0, .int .i64 0, .int .i64 0, .int .i64 0, .int .i64 0, .int .u64 0, .int .i64 0, .int .i64 0, .int .i64 0, .int .i64 0, .int .u8 0, .string ⟨#[]⟩, .int .i64 0, .int .i64 0, .int .i64 0, .int .i64 0, .int .i64 0, .slice none 0 0, .slice none 0 0, .string ⟨#[]⟩] : Array Value).size = x.M.toArray.size := (by rfl : _ = 22).trans (by rw [List.size_toArray, h.len])

/-- what Great says: false of few acts alone -/
def GreatPost (n : Nat) (w : World) (e : Ending) (w' : World) : Prop := ∃ r : Bool, e = .returned (.bool r) ∧ (r = false → n ≤ 200) ∧ Ext w w'

set_option maxRecDepth 100000 in
set_option maxHeartbeats 800000 in
theorem great_calls (A : Option Addr) (c : Nat) (xs : List Ac) (w : World) (h : Acts w A xs) :
    Calls Tryz.prog 22 #[.slice A xs.length c] w (GreatPost xs.length w) := by
  go_enter Tryz.func22, Tryz.ntmps22
  go_wp2_with fail
  go_loopw [3] (fun i wr => ∃ k : Nat, k ≤ xs.length ∧ k ≤ 201 ∧ i = i64 k ∧ Ext w wr) (fun i _ => xs.length - (intOf i).toNat)
  case atStart => exact ⟨0, by omega, by omega, rfl, Below.refl _ _⟩
  case round =>
    obtain ⟨k, hk, hk2, rfl, hE⟩ := hrel
    have HE := Lib.hid hE
    have HA := Lib.hid (h.ext hE)
    by_cases hlt : k < xs.length
    · by_cases hk3 : (k : Int) ≤ 200
      · obtain ⟨b, off, rfl, hb, hc, hx⟩ := HA.out.at hlt
        generalize xs[k] = x at hc hx
        have hM := Lib.hid (msg_add hx hc)
        have HX := Lib.hid hx
        clear hc hx hE
        have G := Lib.hid (heap_alloc_new wr zlit)
        have hB : Blk ((wr.alloc zlit).setRow wr.heap.size x.M.toArray) wr.heap.size x.M 40 := setRow_heap _ _ _ _ 40 (0, 0) G.out
        have hE2 : Ext w ((wr.alloc zlit).setRow wr.heap.size x.M.toArray) :=
          ((Mod.of_ext (S := []) HE.out).alloc _).setRow (by right; exact HE.out.size) _ |>.to_ext (by simp)
        obtain ⟨a1, c1, h20⟩ := HX.out.set
        obtain ⟨a2, c2, h19⟩ := HX.out.own
        have h21 := HX.out.dat
        have h13 := HX.out.key
        rw [← hB.read.1] at h20 h19 h21 h13
        have HE2 := Lib.hid hE2
        clear hB hE2
        rcases (show (300 : Int) < x.l1 ∨ ((x.l1 : Int) ≤ 300 ∧ (300 : Int) < x.l2) ∨ ((x.l1 : Int) ≤ 300 ∧ (x.l2 : Int) ≤ 300 ∧ (3000 : Int) < x.s1.size) ∨ ((x.l1 : Int) ≤ 300 ∧ (x.l2 : Int) ≤ 300 ∧ (x.s1.size : Int) ≤ 3000 ∧ (3000 : Int) < x.s2.size) ∨ ((x.l1 : Int) ≤ 300 ∧ (x.l2 : Int) ≤ 300 ∧ (x.s1.size : Int) ≤ 3000 ∧ (x.s2.size : Int) ≤ 3000) from by omega) with q1 | ⟨q1, q2⟩ | ⟨q1, q2, q3⟩ | ⟨q1, q2, q3, q4⟩ | ⟨q1, q2, q3, q4⟩
        all_goals
          go_wp2_with (first | (refine wpList_load_at rfl 40 (.tmp 18) rfl ⟨b, off + k * 28 + 4, none⟩ rfl x.M _ hM.out Tryz.underlying40 rfl (by rw [HX.out.len]; kernel_rfl) ?_) | (refine wpList_store_row rfl 40 (.tmp 4) (.tmp 19) rfl wr.heap.size x.M.toArray rfl rfl 40 _ G.out HX.out.info HX.out.size22' HX.out.all ?_))
          first
          | (go_ret
             exact ⟨true, rfl, by simp, HE2.out⟩)
          | (go_roundw
             case rel => exact ⟨k + 1, by omega, by omega, by go_num, HE2.out⟩
             case measure => simp [intOf]; omega)
      · clear hE
        go_wp2_with fail
        go_ret
        exact ⟨_, rfl, by simp; omega, HE.out⟩
    · clear hE
      go_wp2_with fail
      go_ret
      exact ⟨_, rfl, by simp; omega, HE.out⟩
end
end Go.Proofs.YtchmhkdnegngdaaGreat
