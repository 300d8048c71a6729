/- find: the move of a number. CoordDeaf, the plain law: what is not a side's own word changes nothing. An act that is built of a message alone; a slice of one. One coordinator of one's own: its acts; what Moves, Tick, Table leave stays. -/
import Derived.Test.YtchmhkdnegngdaaGreatGIv
import Derived.Great.BuildSlice
set_option linter.unusedVariables false
set_option linter.unusedSimpArgs false
namespace Go.Proofs.YtchmhkdnegngdaaGreat
open Go.RowKit

section
def zeroMv : Mv := ⟨0, 0, 0, 0, 0, 0⟩
def Mv.val (x : Mv) : Value := .agg #[i64 x.mv, i64 x.part, i64 x.fr, i64 x.dst, i64 x.st, i64 x.dn]
def findMv (L : List Mv) (n : Int) : Option Mv := L.find? (fun x => x.mv == n)

def FindPost (o : Option Mv) (w : World) (e : Ending) (w' : World) : Prop := e = .returned (.tuple #[(o.getD zeroMv).val, .bool o.isSome]) ∧ Ext w w'

set_option maxRecDepth 100000 in
set_option maxHeartbeats 800000 in
theorem find_calls (v : Value) (L : List Mv) (n : Int) (w : World) (h : MvRow w v L) (hl : L.length ≤ 4096) :
    Calls Tryz.prog 34 #[v, i64 n] w (FindPost (findMv L n) w) := by
  obtain ⟨A, c, rfl, h⟩ := h
  have H := Lib.hid h
  have B0 := Blk.new w [i64 0, i64 0, i64 0, i64 0, i64 0, i64 0] 77
  have E1 : Ext w (w.alloc (.cells #[i64 0, i64 0, i64 0, i64 0, i64 0, i64 0] 77)) := by (refine Mod.to_ext (S := []) ?_ (by simp); repeat (first | (with_reducible exact Mod.refl _ _) | (with_reducible assumption) | (with_reducible refine Mod.alloc ?_ _) | (with_reducible refine Mod.drew ?_) | (with_reducible refine Mod.drewN ?_ _)))
  clear h
  go_enter Tryz.func34, Tryz.ntmps34
  go_wp2_with fail
  revert B0 E1
  generalize hN : w.heap.size = N
  generalize hW : World.alloc w _ = W
  clear hW
  intro B0 E1
  have HB0 := Lib.hid B0
  have HE1 := Lib.hid E1
  clear B0 E1
  go_loopw [6] (fun i wr => ∃ k : Nat, k ≤ L.length ∧ i = i64 k ∧ (∀ x ∈ L.take k, (x.mv == n) = false) ∧ Ext W wr) (fun i _ => L.length - (intOf i).toNat)
  case atStart => exact ⟨0, Nat.zero_le _, rfl, by simp, Below.refl _ _⟩
  case round =>
    obtain ⟨k, hk, rfl, hpre, hX⟩ := hrel
    have HP := Lib.hid hpre
    have HX := Lib.hid hX
    obtain ⟨b0, f0⟩ := (HB0.out.ext hX).read
    have c0 := b0 0
    have c1 := b0 1
    have c2 := b0 2
    have c3 := b0 3
    have c4 := b0 4
    have c5 := b0 5
    simp only [List.getElem?_cons_succ, List.getElem?_cons_zero] at c0 c1 c2 c3 c4 c5
    have hb1 := (HB0.out.ext hX).lt
    clear hpre hX b0
    have hNw : ∀ wf, Mod [N] W wf → Ext w wf := fun wf hm => ((Mod.of_ext (S := []) HE1.out).step hm (by intro x hx; right; simp at hx; omega)).to_ext (by simp)
    have HNW := Lib.hid hNw
    clear hNw
    by_cases hlt : k < L.length
    · obtain ⟨b, rfl, hb, hc⟩ := H.out (fun e => by rw [e] at hlt; simp at hlt)
      have hE2 := HE1.out.trans HX.out
      have a0 : wr.cell? ⟨b, k * 6, none⟩ = some (i64 L[k].mv) := (hE2.cell (p := ⟨b, k * 6, none⟩) hb).trans (hc k hlt 0 _ rfl)
      have a1 := (hE2.cell (p := ⟨b, k * 6 + 1, none⟩) hb).trans (hc k hlt 1 _ rfl)
      have a2 := (hE2.cell (p := ⟨b, k * 6 + 2, none⟩) hb).trans (hc k hlt 2 _ rfl)
      have a3 := (hE2.cell (p := ⟨b, k * 6 + 3, none⟩) hb).trans (hc k hlt 3 _ rfl)
      have a4 := (hE2.cell (p := ⟨b, k * 6 + 4, none⟩) hb).trans (hc k hlt 4 _ rfl)
      have a5 := (hE2.cell (p := ⟨b, k * 6 + 5, none⟩) hb).trans (hc k hlt 5 _ rfl)
      have hbN : b ≠ N := by omega
      clear hc hE2
      by_cases hn : L[k].mv = n
      · have hq : (L[k].mv == n) = true := by simpa using hn
        have hf : findMv L n = some L[k] := find_take_none hlt HP.out hq
        rw [hf]
        generalize L[k] = m at a0 a1 a2 a3 a4 a5 hq hn
        have Hn := Lib.hid hn
        clear hn hf
        go_wp2_with fail
        refine bodyPost_ret (v := .tuple #[m.val, .bool true]) (by simp [results, Tryz.results34, go_sem, Mv.val, c0, c1, c2, c3, c4, c5, hb1]) rfl ?_
        refine ⟨rfl, HNW.out _ ?_⟩
        have M0 : Mod [N] W wr := Mod.of_ext HX.out
        repeat (first | (with_reducible exact Mod.refl _ _) | (with_reducible assumption) | (with_reducible refine Mod.setCell ?_ (by simp) _) | (with_reducible refine Mod.alloc ?_ _) | (with_reducible refine Mod.drew ?_) | (with_reducible refine Mod.drewN ?_ _))
      · have hq : (L[k].mv == n) = false := by simpa using hn
        have HQ := Lib.hid hq
        generalize L[k] = m at a0 a1 a2 a3 a4 a5 hq hn
        have Hn := Lib.hid hn
        clear hn
        go_wp2_with fail
        go_roundw
        case rel =>
          refine ⟨k + 1, by omega, by go_num, ?_, HX.out⟩
          intro x hx
          rw [List.take_succ_eq_append_getElem hlt, List.mem_append] at hx
          rcases hx with hx | hx
          · exact HP.out x hx
          · simp at hx; subst hx; exact HQ.out
        case measure => simp [intOf]; omega
    · go_wp2_with fail
      refine bodyPost_ret (v := .tuple #[zeroMv.val, .bool false]) (by simp [results, Tryz.results34, go_sem, Mv.val, zeroMv, c0, c1, c2, c3, c4, c5, hb1]) rfl ?_
      have hf : findMv L n = none := by
        unfold findMv
        rw [List.find?_eq_none]
        intro x hx
        have := HP.out x (by rw [List.take_of_length_le (by omega)]; exact hx)
        simpa using this
      rw [hf]
      refine ⟨rfl, HNW.out _ ?_⟩
      have M0 : Mod [N] W wr := Mod.of_ext HX.out
      repeat (first | (with_reducible exact Mod.refl _ _) | (with_reducible assumption) | (with_reducible refine Mod.setCell ?_ (by simp) _) | (with_reducible refine Mod.alloc ?_ _) | (with_reducible refine Mod.drew ?_) | (with_reducible refine Mod.drewN ?_ _))
end

section
def and1 (n : Int) : Bool := bits BinOp.and IntKind.i64 n 1 == 0
def and2 (n : Int) : Bool := bits BinOp.and IntKind.i64 n 2 == 0

/-- is it a side's own word of a move? -/
def ownX (x : Mv) (f kind part : Int) : Bool :=
  (x.part == part) && (((kind == 10) && (x.st == 1) && (f == x.dst)) || ((kind == 13) && (x.st != 1) && (((f == x.fr) && and1 x.dn) || ((f == x.dst) && and2 x.dn))))
def ownB (L : List Mv) (f kind mv part : Int) : Bool := match findMv L mv with | none => false | some x => ownX x f kind part

theorem and1_0 : and1 0 = true := by decide +kernel
theorem and1_1 : and1 1 = false := by decide +kernel
theorem and1_2 : and1 2 = true := by decide +kernel
theorem and2_0 : and2 0 = true := by decide +kernel
theorem and2_1 : and2 1 = true := by decide +kernel
theorem and2_2 : and2 2 = false := by decide +kernel

theorem setAt_same : ∀ {L : List Mv} {x : Mv}, L.Pairwise (fun x y => x.mv < y.mv) → x ∈ L → setAt x.mv x.st x.dn L = L
  | [], x, _, hx => by cases hx
  | y :: L, x, hs, hx => by
    rw [setAt]
    by_cases e : x.mv = y.mv
    · have hxy : x = y := mv_inj hs hx (by simp) e
      subst hxy
      rw [if_pos rfl]
    · rw [if_neg e]
      rw [List.pairwise_cons] at hs
      rcases List.mem_cons.1 hx with h | h
      · subst h; exact absurd rfl e
      · rw [setAt_same hs.2 h]

theorem done_says {E : Int} {k : Nat} {s : St} (h : Inv E k s) {x : Mv} (hx : x ∈ s.L) (f : Int) :
    (s.done x f).2 = (((f == x.fr) && and1 x.dn) || ((f == x.dst) && and2 x.dn)) ∧ ((s.done x f).2 = false → (s.done x f).1 = s) := by
  have hm := h.mvs x hx
  have key : (s.done x f).2 = (dnOf x f != x.dn) := rfl
  have hne := hm.ne
  constructor
  · rw [key]
    unfold dnOf
    by_cases h1 : f = x.fr
    · have h2 : ¬ f = x.dst := fun e => hne (h1.symm.trans e)
      rw [if_pos h1]
      rcases hm.dn3 with e | e | e <;> rw [e] <;> simp [or_01, or_11, or_21, and1_0, and1_1, and1_2, h1, hne]
    · rw [if_neg h1]
      by_cases h2 : f = x.dst
      · rw [if_pos h2]
        rcases hm.dn3 with e | e | e <;> rw [e] <;> simp [or_02, or_12, or_22, and2_0, and2_1, and2_2, h2, Ne.symm hne]
      · rw [if_neg h2]
        simp [h1, h2]
  · intro hf
    rw [key] at hf
    have he : dnOf x f = x.dn := by simpa using hf
    unfold St.done
    simp only
    rw [he, if_neg (by rcases hm.dn3 with e | e | e <;> omega), setAt_same h.srt hx]

theorem handle_says {E : Int} {k : Nat} {s : St} (h : Inv E k s) (f kind mv part code : Int) :
    (s.handle f kind mv part code).2 = ownB s.L f kind mv part ∧ ((s.handle f kind mv part code).2 = false → (s.handle f kind mv part code).1 = s) := by
  unfold St.handle ownB findMv St.byMv
  cases hf : s.L.find? (fun x => x.mv == mv) with
  | none => exact ⟨rfl, fun _ => rfl⟩
  | some x =>
    have hx : x ∈ s.L := List.mem_of_find?_eq_some hf
    simp only
    unfold ownX
    by_cases hp : x.part = part
    · rw [if_neg (by simpa using hp)]
      by_cases h10 : kind = 10 ∧ x.st = 1 ∧ f = x.dst
      · rw [if_pos h10]
        simp [hp, h10.1, h10.2.1, h10.2.2]
      · rw [if_neg h10]
        have h10' : ((kind == 10) && (x.st == 1) && (f == x.dst)) = false := by
          rw [Bool.eq_false_iff]
          intro e
          simp only [Bool.and_eq_true, beq_iff_eq] at e
          exact h10 ⟨e.1.1, e.1.2, e.2⟩
        by_cases h13 : kind = 13 ∧ x.st ≠ 1
        · rw [if_pos h13, h10']
          have hd := done_says h hx f
          rw [hd.1] at *
          refine ⟨by simp [hp, h13.1, h13.2], hd.2⟩
        · rw [if_neg h13, h10']
          have h13' : ((kind == 13) && (x.st != 1)) = false := by
            rw [Bool.eq_false_iff]
            intro e
            simp only [Bool.and_eq_true, beq_iff_eq, bne_iff_ne] at e
            exact h13 e
          rw [h13']
          simp
    · rw [if_pos hp]
      simp [hp]
end

section
def bd62 (parts : Array (Nat × Value)) : Sem Value := Instr.build 62 parts
def bs51 (len : Nat) (parts : Array (Nat × Value)) : Sem Value := Instr.buildSlice 51 len parts
theorem bd62_pre (parts : Array (Nat × Value)) : Instr.build 62 parts = bd62 parts := rfl
theorem bs51_pre (len : Nat) (parts : Array (Nat × Value)) : Instr.buildSlice 51 len parts = bs51 len parts := rfl

def actOf (M : List Value) : List Value := [i64 0, i64 0, i64 0, i64 0] ++ (M ++ [i64 0, i64 0])

theorem info62 : (Tryz.prog.info? 62).map (fun i => (i.zero, i.size)) = some (some (.agg #[i64 0, i64 0, i64 0, i64 0, .int .u8 0, i64 0, i64 0, i64 0, i64 0, i64 0, i64 0, .int .u64 0, i64 0, i64 0, i64 0, i64 0, .int .u8 0, .string ⟨#[]⟩, i64 0, i64 0, i64 0, i64 0, i64 0, .slice none 0 0, .slice none 0 0, .string ⟨#[]⟩, i64 0, i64 0]), 28) := by kernel_rfl

def places62 : List (Nat × Nat) := [(0, 1), (1, 1), (2, 1), (3, 1), (4, 22), (26, 1), (27, 1)]
theorem fields62 : (Tryz.prog.underlying 62).map (fun d => match d with | .struct fs => fs.toList.mapM (fun f => (Tryz.prog.info? f.type).map fun i => (f.offset, i.size)) | _ => none) = some (some places62) := by kernel_rfl

theorem fill_act (M : List Value) (h : M.length = 22) : Instr.fill (places62.toArray[·]?) #[i64 0, i64 0, i64 0, i64 0, .int .u8 0, i64 0, i64 0, i64 0, i64 0, i64 0, i64 0, .int .u64 0, i64 0, i64 0, i64 0, i64 0, .int .u8 0, .string ⟨#[]⟩, i64 0, i64 0, i64 0, i64 0, i64 0, .slice none 0 0, .slice none 0 0, .string ⟨#[]⟩, i64 0, i64 0] [(4, .agg M.toArray)] = some (actOf M).toArray := by
  have hp : places62.toArray[4]? = some (4, 22) := rfl
  unfold Instr.fill
  simp only [hp, Value.cells, List.size_toArray, h]
  rw [if_neg (by decide)]
  unfold Instr.fill
  congr 1
  have hf := Great.foldl_set 4 M 0 #[i64 0, i64 0, i64 0, i64 0, .int .u8 0, i64 0, i64 0, i64 0, i64 0, i64 0, i64 0, .int .u64 0, i64 0, i64 0, i64 0, i64 0, .int .u8 0, .string ⟨#[]⟩, i64 0, i64 0, i64 0, i64 0, i64 0, .slice none 0 0, .slice none 0 0, .string ⟨#[]⟩, i64 0, i64 0]
  apply Array.ext_getElem?
  intro k
  have hz : M.toArray.zipIdx.foldl (fun (cs : Array Value) (x : Value × Nat) => cs.setIfInBounds (4 + x.2) x.1) #[i64 0, i64 0, i64 0, i64 0, .int .u8 0, i64 0, i64 0, i64 0, i64 0, i64 0, i64 0, .int .u64 0, i64 0, i64 0, i64 0, i64 0, .int .u8 0, .string ⟨#[]⟩, i64 0, i64 0, i64 0, i64 0, i64 0, .slice none 0 0, .slice none 0 0, .string ⟨#[]⟩, i64 0, i64 0] = (M.zipIdx 0).foldl (fun cs (x : Value × Nat) => cs.setIfInBounds (4 + x.2) x.1) #[i64 0, i64 0, i64 0, i64 0, .int .u8 0, i64 0, i64 0, i64 0, i64 0, i64 0, i64 0, .int .u64 0, i64 0, i64 0, i64 0, i64 0, .int .u8 0, .string ⟨#[]⟩, i64 0, i64 0, i64 0, i64 0, i64 0, .slice none 0 0, .slice none 0 0, .string ⟨#[]⟩, i64 0, i64 0] := by
    simp
  have ha : ((actOf M).toArray)[k]? = (actOf M)[k]? := by simp
  rw [hz, hf.2 k, ha]
  unfold actOf
  by_cases h4 : k < 4
  · rw [if_neg (by omega), List.getElem?_append_left (by simpa using h4)]
    match k, h4 with
    | 0, _ => rfl
    | 1, _ => rfl
    | 2, _ => rfl
    | 3, _ => rfl
  · rw [List.getElem?_append_right (by simp; omega)]
    simp only [List.length_cons, List.length_nil]
    by_cases h26 : k < 26
    · rw [if_pos (by simp; omega), List.getElem?_append_left (by omega)]
    · rw [if_neg (by simp; omega), List.getElem?_append_right (by omega), h]
      rcases Nat.lt_or_ge k 28 with h28 | h28
      · obtain rfl | rfl : k = 26 ∨ k = 27 := by omega
        · rfl
        · rfl
      · rw [Array.getElem?_eq_none (by simp; omega), List.getElem?_eq_none (by simp; omega)]

theorem built_act (M : List Value) (h : M.length = 22) : Tryz.prog.built 62 [(4, .agg M.toArray)] = some (actOf M).toArray := by
  have h1 := info62
  have h2 := fields62
  unfold Program.built
  cases hi : Tryz.prog.info? 62 with
  | none => rw [hi] at h1; cases h1
  | some it =>
    rw [hi] at h1
    simp only [Option.map_some, Option.some.injEq, Prod.mk.injEq] at h1
    rw [Tryz.underlying62] at h2 ⊢
    simp only [Option.map_some, Option.some.injEq] at h2
    simp only [h1.1, h2]
    exact fill_act M h

theorem bd62_run (w : World) (M : List Value) (h : M.length = 22) : (bd62 #[(4, .agg M.toArray)]).run Tryz.prog w = .ok (.agg (actOf M).toArray) w := by
  unfold bd62
  exact run_build w 62 _ _ (built_act M h)

theorem actOf_len {M : List Value} (h : M.length = 22) : (actOf M).length = 28 := by simp [actOf, h]

theorem bs51_run (w : World) (D : List Value) (h : D.length = 28) : (bs51 1 #[(0, .agg D.toArray)]).run Tryz.prog w = .ok (.slice (some ⟨w.heap.size, 0, none⟩) 1 1) (w.alloc (.cells D.toArray 62)) := by
  unfold bs51
  cases hi : Tryz.prog.info? 62 with
  | none => have := info62; rw [hi] at this; cases this
  | some ie =>
    have h62 := info62
    rw [hi] at h62
    simp only [Option.map_some, Option.some.injEq, Prod.mk.injEq] at h62
    obtain ⟨hz, hsz⟩ := h62
    refine run_buildSlice w 51 62 1 _ D.toArray ie _ Tryz.underlying51 hi hz (by rw [hsz]; decide) (by rw [hsz]; decide) ?_
    rw [hsz]
    have hw := Great.fill_whole (s := 28) (by decide) [.agg D.toArray] ((Array.range (1 * 28)).map (fun i => ((Value.agg #[i64 0, i64 0, i64 0, i64 0, .int .u8 0, i64 0, i64 0, i64 0, i64 0, i64 0, i64 0, .int .u64 0, i64 0, i64 0, i64 0, i64 0, .int .u8 0, .string ⟨#[]⟩, i64 0, i64 0, i64 0, i64 0, i64 0, .slice none 0 0, .slice none 0 0, .string ⟨#[]⟩, i64 0, i64 0]).cells[i % (Value.agg #[i64 0, i64 0, i64 0, i64 0, .int .u8 0, i64 0, i64 0, i64 0, i64 0, i64 0, i64 0, .int .u64 0, i64 0, i64 0, i64 0, i64 0, .int .u8 0, .string ⟨#[]⟩, i64 0, i64 0, i64 0, i64 0, i64 0, .slice none 0 0, .slice none 0 0, .string ⟨#[]⟩, i64 0, i64 0]).cells.size]!))) (by intro v hv; rw [List.mem_singleton.1 hv]; simpa [Value.cells] using h) (by simp)
    simpa [Value.cells] using hw
end

section
theorem held_one {w0 w : World} {c : Nat} {s : St} {K : List Nat} (x : Ac) (h : Held w0 w c s K) (g : Good s) (hx : x.ok) :
    Calls Tryz.prog 32 #[.pointer (some ⟨c, 0, none⟩), .agg x.cells.toArray] w
      (fun e w' => e = .returned (.tuple #[i64 (s.one x).2.1, i64 (s.one x).2.2.1, .bool (s.one x).2.2.2]) ∧ Held w0 w' c (s.one x).1 K ∧ Stay w w' K) := by
  obtain ⟨F, h1, h2, h3, hK⟩ := h
  exact (one_calls c F s x w h1 g hx).mono (fun e w' q => ⟨q.1, Held.step h2 h3 hK q.2⟩)

theorem held_tick2 {w0 w : World} {c : Nat} {s : St} {K : List Nat} (h : Held w0 w c s K) (g : Good s) (f : Fine s) (hn : 1 ≤ s.n) :
    Calls Tryz.prog 13 #[.pointer (some ⟨c, 0, none⟩)] w (TickOwn s w) := by
  obtain ⟨F, h1, h2, h3, hK⟩ := h
  exact own_tick h1 g f hn

theorem held_moves2 {w0 w : World} {c : Nat} {s : St} {K : List Nat} (h : Held w0 w c s K) (g : Good s) :
    Calls Tryz.prog 21 #[.pointer (some ⟨c, 0, none⟩)] w (MovesOwn s w) := by
  obtain ⟨F, h1, h2, h3, hK⟩ := h
  exact own_moves h1 g

theorem held_table2 {w0 w : World} {c : Nat} {s : St} {K : List Nat} (h : Held w0 w c s K) (g : Good s) :
    Calls Tryz.prog 16 #[.pointer (some ⟨c, 0, none⟩)] w (TableOwn s w) := by
  obtain ⟨F, h1, h2, h3, hK⟩ := h
  have := g.ol
  exact table_own c F s w h1 (by omega) g.o0

theorem held_ended2 {w0 w : World} {c : Nat} {s : St} {K : List Nat} (h : Held w0 w c s K) :
    Calls Tryz.prog 19 #[.pointer (some ⟨c, 0, none⟩)] w (fun e w' => e = .returned (.tuple #[i64 s.com, i64 s.ab]) ∧ Ext w w') := by
  obtain ⟨F, h1, h2, h3, hK⟩ := h
  exact ended_calls c F s w h1

theorem Held.out {w0 w : World} {c : Nat} {s : St} {K : List Nat} (h : Held w0 w c s K) : Ext w0 w := by
  obtain ⟨F, h1, h2, h3, hK⟩ := h
  exact h3

theorem Held.klt {w0 w : World} {c : Nat} {s : St} {K : List Nat} (h : Held w0 w c s K) : ∀ k ∈ K, k < w.heap.size := by
  obtain ⟨F, h1, h2, h3, hK⟩ := h
  exact fun k hk => (hK k hk).1

theorem Held.made {w0 w w' : World} {c : Nat} {F : List Nat} {s : St} (e1 : Ext w0 w) (h1 : CR w' c F s) (h2 : ∀ k ∈ F, w.heap.size ≤ k) (e2 : Ext w w') : Held w0 w' c s [] :=
  ⟨F, h1, fun k hk => Nat.le_trans e1.size (h2 k hk), e1.trans e2, by simp⟩

/-- the block of a slice, if any -/
def blkOf (A : Option Addr) : List Nat := match A with | some a => [a.block] | none => []

def kOf (n : Nat) (A : Option Addr) : List Nat := if n = 0 then [] else blkOf A

theorem MvRow.stay {w w' : World} {A : Option Addr} {c : Nat} {L : List Mv} (h : MvRow w (.slice A L.length c) L) (hz : ∀ k ∈ kOf L.length A, k < w'.heap.size) (hs : ∀ k ∈ kOf L.length A, w'.heap[k]? = w.heap[k]?) : MvRow w' (.slice A L.length c) L := by
  obtain ⟨A', c', hv, h⟩ := h
  injection hv with h1 h2 h3
  subst h1; subst h3
  refine ⟨A, c, rfl, fun hn => ?_⟩
  obtain ⟨b, rfl, hb, hc⟩ := h hn
  have hk : b ∈ kOf L.length (some ⟨b, 0, none⟩) := by
    unfold kOf
    rw [if_neg (fun e => hn (List.length_eq_zero_iff.1 e))]
    simp [blkOf]
  exact ⟨b, rfl, hz b hk, fun i hi j u hu => (World.cell?_of_block (hs b hk)).trans (hc i hi j u hu)⟩

theorem PkRow.stay {w w' : World} {A : Option Addr} {c : Nat} {ps : List (Int × ByteArray)} (h : PkRow w (.slice A ps.length c) ps) (h0 : 0 < ps.length) (hz : ∀ k ∈ kOf ps.length A, k < w'.heap.size) (hs : ∀ k ∈ kOf ps.length A, w'.heap[k]? = w.heap[k]?) : PkRow w' (.slice A ps.length c) ps := by
  obtain ⟨g, c', hv, hb, hc⟩ := h
  injection hv with h1 h2 h3
  subst h1; subst h3
  have hk : g ∈ kOf ps.length (some ⟨g, 0, none⟩) := by
    unfold kOf
    rw [if_neg (by omega)]
    simp [blkOf]
  exact ⟨g, c, rfl, hz g hk, fun i hi j u hu => (World.cell?_of_block (hs g hk)).trans (hc i hi j u hu)⟩

theorem OwnRow.blk {B : Nat} {w : World} {A : Option Addr} {n z : Nat} (h : OwnRow B w A n z) : ∀ k ∈ kOf n A, B ≤ k ∧ k < w.heap.size := by
  intro k hk
  unfold kOf at hk
  split at hk
  · simp at hk
  · obtain ⟨g, rfl, hg, cs, t, hr, _⟩ := h (by omega)
    have : k = g := by simpa [blkOf] using hk
    subst this
    exact ⟨hg, lt_of_block hr⟩

theorem MvRow.form {w : World} {A : Option Addr} {c : Nat} {L : List Mv} (h : MvRow w (.slice A L.length c) L) {k : Nat} (hk : k < L.length) : ∃ b, A = some ⟨b, 0, none⟩ ∧ b < w.heap.size ∧
    ∀ (i : Nat) (hi : i < L.length) (j : Nat) (u : Value), (mvcells L[i])[j]? = some u → w.cell? ⟨b, i * 6 + j, none⟩ = some u := by
  obtain ⟨A', c', hv, h⟩ := h
  injection hv with h1 h2 h3
  subst h1
  exact h (fun e => by rw [e] at hk; simp at hk)

theorem blk3 {w : World} {T : Nat} {a b c : Value} {t : TypeId} (h : Blk w T [a, b, c] t) : w.cell? ⟨T, 0, none⟩ = some a ∧ w.cell? ⟨T, 1, none⟩ = some b ∧ w.cell? ⟨T, 2, none⟩ = some c :=
  ⟨h.read.1 0, h.read.1 1, h.read.1 2⟩
end
end Go.Proofs.YtchmhkdnegngdaaGreat
