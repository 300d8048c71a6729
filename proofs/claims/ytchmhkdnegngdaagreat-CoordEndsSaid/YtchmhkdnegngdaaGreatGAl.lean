/- Book.All. Book: Of, End, By. -/
import Derived.Test.YtchmhkdnegngdaaGreatGSh
import Derived.Deep.AppendLies
set_option linter.unusedVariables false
set_option linter.unusedSimpArgs false
namespace Go.Proofs.YtchmhkdnegngdaaGreat
open Go.RowKit

section
theorem info96 : (Tryz.prog.info? 96).map (fun i => (i.zero, i.size, i.bytes)) = some (some (.agg #[i64 0, i64 0, i64 0, i64 0]), 4, 32) := by kernel_rfl

/-- the book in memory: its block, its map (none before the first order), the last number, its entries in rising number -/
structure BookIs (w : World) (b : Nat) (m : Option Nat) (last : Int) (L : List Ent) : Prop where
  blk : Blk w b [.map m, i64 last] 118
  mnone : m = none → L = []
  msome : ∀ r, m = some r → MapIs w r (L.map fun e => (e.part, e.val))

/-- a slice of entries, nil where there are none -/
def EntsAt (w : World) (v : Value) (L : List Ent) : Prop :=
  (L = [] ∧ v = .slice none 0 0) ∨ (L ≠ [] ∧ ∃ g cap, v = .slice (some ⟨g, 0, none⟩) L.length cap ∧ EB w g cap L)

def intVal : Value → Int
  | .int _ n => n
  | _ => 0

def valEnt : Value → Ent
  | .agg cs => ⟨intVal (cs.getD 0 undef), intVal (cs.getD 1 undef), intVal (cs.getD 2 undef), intVal (cs.getD 3 undef)⟩
  | _ => ⟨0, 0, 0, 0⟩

theorem ent_val (e : Ent) : valEnt e.val = e := rfl

theorem perm_of_vals {xs L : List Ent} (h : (xs.map Ent.val).Perm (L.map Ent.val)) : xs.Perm L := by
  have := h.map valEnt
  simpa [List.map_map, Function.comp_def, ent_val] using this

theorem sorted_unique : ∀ {xs L : List Ent}, xs.Perm L → xs.Pairwise (fun x y => x.mv ≤ y.mv) → L.Pairwise (fun x y => x.mv < y.mv) → xs = L
  | [], L, h, _, _ => (List.nil_perm.1 h).symm
  | x :: xs, [], h, _, _ => absurd h (by simp)
  | x :: xs, y :: L, h, h1, h2 => by
    rw [List.pairwise_cons] at h1 h2
    have hxy : x = y := by
      rcases List.mem_cons.1 (h.mem_iff.1 (List.mem_cons_self (a := x) (l := xs))) with e | hx
      · exact e
      · rcases List.mem_cons.1 (h.mem_iff.2 (List.mem_cons_self (a := y) (l := L))) with e | hy
        · exact e.symm
        · have := h1.1 y hy; have := h2.1 x hx; omega
    subst hxy
    rw [sorted_unique (h.cons_inv) h1.2 h2.2]

theorem sortFunc_nil (w : World) :
    Calls Tryz.prog 61 #[.slice none 0 0, .func (.func 62) #[] #[]] w fun e w' => e = .returned (.tuple #[]) ∧ w = w' := by
  have R : ∀ lim, Calls Tryz.prog 76 #[.slice none 0 0, i64 0, i64 0, i64 lim, .func (.func 62) #[] #[]] w fun e w' => e = .returned (.tuple #[]) ∧ w = w' := by
    intro lim
    have R2 : Calls Tryz.prog 98 #[.slice none 0 0, i64 0, i64 0, .func (.func 62) #[] #[]] w fun e w' => e = .returned (.tuple #[]) ∧ w = w' := by
      go_enter Tryz.func98, Tryz.ntmps98
      go_wp2_with fail
      refine wp_loop_once ?_
      go_wp2_with fail
      go_end0
      exact ⟨rfl, rfl⟩
    go_enter Tryz.func76, Tryz.ntmps76
    go_wp2_with fail
    refine wp_loop_once ?_
    go_wp2_with fail
    refine R2.mono ?_
    rintro e w' ⟨rfl, rfl⟩
    go_wp2_with fail
    refine bodyPost_ret (results_none rfl _ _ _) rfl ?_
    exact ⟨rfl, rfl⟩
  go_enter Tryz.func61, Tryz.ntmps61
  go_wp2_with fail
  refine (bits_Len 0 w (by omega) (by omega)).mono ?_
  rintro e w' ⟨rfl, rfl⟩
  go_wp2_with fail
  refine (R _).mono ?_
  rintro e w' ⟨rfl, rfl⟩
  go_wp2_with fail
  go_end0
  exact ⟨rfl, rfl⟩

def AllPost (L : List Ent) (w : World) (e : Ending) (w' : World) : Prop := ∃ v, e = .returned v ∧ EntsAt w' v L ∧ Ext w w'

set_option maxRecDepth 100000 in
theorem all_none (b : Nat) (last : Int) (w : World) (h : BookIs w b none last []) :
    Calls Tryz.prog 45 #[.pointer (some ⟨b, 0, none⟩)] w (AllPost [] w) := by
  obtain ⟨c0, f0⟩ := h.blk.read
  have hr : ∀ w : World, (Instr.range 116 (.map none)).run Tryz.prog w = .ok (.pointer (some ⟨w.heap.size, 0, none⟩)) (w.alloc (.mapIter none 0 #[] 0)) := by
    intro w; simp [Instr.range, Sem.run_bind, run_underlying Tryz.underlying116, Result.andThen]
  go_enter Tryz.func45, Tryz.ntmps45
  go_wp2_with fail
  have hn : ∀ ty, (Instr.next (.pointer (some ⟨w.heap.size, 0, none⟩)) false ty).run Tryz.prog (w.alloc (.mapIter none 0 #[] 0)) = .ok (.tuple #[.bool false]) (w.alloc (.mapIter none 0 #[] 0)) := by
    intro ty
    have hh : (w.alloc (.mapIter none 0 #[] 0)).heap[w.heap.size]? = some (.mapIter none 0 #[] 0) := heap_alloc_new w _
    simp only [Instr.next, getObj, Sem.run_bind, Sem.run, hh, Result.andThen]
    rfl
  refine wp_loop_once ?_
  go_wp2_with fail
  refine (sortFunc_nil _).mono ?_
  rintro e w' ⟨rfl, rfl⟩
  go_wp2_with fail
  go_ret
  unfold AllPost
  exact ⟨_, rfl, .inl ⟨rfl, rfl⟩, by (refine Mod.to_ext (S := []) ?_ (by simp); repeat (first | (with_reducible exact Mod.refl _ _) | (with_reducible assumption) | (with_reducible refine Mod.alloc ?_ _) | (with_reducible refine Mod.drew ?_) | (with_reducible refine Mod.drewN ?_ _)))⟩

theorem EntsAt.ext {w w' : World} {v : Value} {L : List Ent} (h : EntsAt w v L) (e : Ext w w') : EntsAt w' v L := by
  rcases h with h | ⟨h0, g, cap, hv, he⟩
  · exact .inl h
  · exact .inr ⟨h0, g, cap, hv, he.ext e⟩

theorem EB_of_owns {w : World} {base : Nat} {v : Value} {xs : List Ent} (h : w.ownsRow base 96 4 v xs.length (xs.flatMap Ent.cells)) (hpos : 0 < xs.length) :
    ∃ g cap, v = .slice (some ⟨g, 0, none⟩) xs.length cap ∧ base ≤ g ∧ g < w.heap.size ∧ EB w g cap xs := by
  obtain ⟨hl, h2⟩ := h
  rcases h2 with ⟨_, h0⟩ | ⟨g, cap, cur, rfl, hb, hh, hc, hm, hs, ht⟩
  · omega
  · exact ⟨g, cap, rfl, hb, lt_of_block hh, cur, hh, hs, hc, ht⟩

theorem ent_oneCell (e : Ent) : ∀ u ∈ e.cells, u.oneCell' = true := by
  intro u hu; simp [Ent.cells] at hu; rcases hu with rfl | rfl | rfl | rfl <;> rfl

theorem news_ent (e : Ent) {w : World} {g : Nat} (h : Blk w g [i64 e.mv, i64 e.part, i64 e.fr, i64 e.dst] 96) :
    ∀ (j : Nat) (u : Value), e.cells[j]? = some u → w.cell? ((⟨g, 0, none⟩ : Addr).add j) = some u := by
  intro j u hj
  rw [addr_add, Nat.zero_add]
  unfold Blk at h
  simp only [World.cell?, h, Option.isSome_none, Bool.false_eq_true, if_false]
  rw [← hj]; simp [Ent.cells]

set_option maxRecDepth 100000 in
set_option maxHeartbeats 600000 in
theorem all_some (b r : Nat) (last : Int) (L : List Ent) (w : World) (h : BookIs w b (some r) last L) (hl : L.length ≤ 12) (hs : L.Pairwise (fun x y => x.mv < y.mv)) :
    Calls Tryz.prog 45 #[.pointer (some ⟨b, 0, none⟩)] w (AllPost L w) := by
  obtain ⟨c0, f0⟩ := h.blk.read
  have hM := h.msome r rfl
  obtain ⟨i0, hi, hz0, hz1, hz2⟩ := info_parts info96
  obtain ⟨w1, hrun, hI, hE, hsz⟩ := run_range Tryz.underlying116 hM
  have HI := Lib.hid hI
  have HE := Lib.hid hE
  have hne : w.heap.size ≠ r := by have := hM.lt; omega
  have Hs := Lib.hid hs
  have HM := Lib.hid hM
  have Hh := Lib.hid h
  clear hI hE hs hM h
  go_enter Tryz.func45, Tryz.ntmps45
  go_wp2_with fail
  have hlft : ((L.map fun e => (e.part, e.val)).map (·.2)) = L.map Ent.val := by rw [List.map_map]; rfl
  go_loopw [3] (fun v wr => ∃ (xs : List Ent) (left : List Value), Iter wr w.heap.size r (L.map fun e => (e.part, e.val)) left ∧ (xs.map Ent.val ++ left).Perm (L.map Ent.val) ∧
      wr.ownsRow (w.heap.size + 1) 96 4 v xs.length (xs.flatMap Ent.cells) ∧ Ext w wr ∧ w.heap.size < wr.heap.size ∧ (xs = [] → v = .slice none 0 0)) (fun _ wr => leftN wr w.heap.size r)
  case atStart =>
    refine ⟨[], L.map Ent.val, ?_, by simp, World.ownsRow_nil _ _ _ _, HE.out, by omega, fun _ => rfl⟩
    rw [← hlft]; exact HI.out
  case round =>
    obtain ⟨xs, left, hIt, hp, ho, hE, hsz2, hnil⟩ := hrel
    have HNil := Lib.hid hnil
    clear hnil
    have hn := run_next Tryz.prog hIt hne
    have HP := Lib.hid hp
    have HO := Lib.hid ho
    have HE2 := Lib.hid hE
    have HIt := Lib.hid hIt
    clear hp ho hE hIt hlft
    rcases hn with ⟨rfl, hn⟩ | ⟨k, val, left', w2, hn, hpick, hAt, hmod, hsz3⟩
    · have hxs : xs.Perm L := perm_of_vals (by simpa using HP.out)
      have hlen : xs.length = L.length := hxs.length_eq
      by_cases h0 : xs = []
      · have hv := HNil.out h0
        subst hv
        have hL0 : L = [] := by subst h0; exact (List.nil_perm.1 hxs)
        have HL0 := Lib.hid hL0
        clear hxs hlen h0 hL0
        go_wp2_with fail
        refine (sortFunc_nil _).mono ?_
        rintro e w' ⟨rfl, rfl⟩
        go_wp2_with fail
        go_ret
        unfold AllPost
        exact ⟨_, rfl, .inl ⟨HL0.out, rfl⟩, HE2.out⟩
      · have hpos : 0 < xs.length := List.length_pos_iff.2 h0
        obtain ⟨g, cap, rfl, hb, hg, hEB⟩ := EB_of_owns HO.out hpos
        have HEB := Lib.hid hEB
        have Hx := Lib.hid hxs
        have Hn0 := Lib.hid h0
        clear hEB hxs h0
        have hx12 : xs.length ≤ 12 := by omega
        have HLen := Lib.hid hlen
        clear hlen
        go_wp2_with fail
        refine (sortFunc_calls g cap xs wr HEB.out hx12).mono ?_
        rintro e w' ⟨rfl, hh⟩
        have H := Lib.hid hh
        clear hh
        go_wp2_with fail
        go_ret
        obtain ⟨es', hE', hp', hs', hm'⟩ := H.out
        have he : es' = L := sorted_unique (hp'.trans Hx.out) hs' Hs.out
        subst he
        unfold AllPost
        refine ⟨_, rfl, .inr ⟨?_, g, cap, ?_, hE'⟩, ?_⟩
        · intro e0; subst e0; exact Hn0.out (List.eq_nil_of_length_eq_zero (by simpa using HLen.out))
        · show Value.slice (some ⟨g, 0, none⟩) xs.length cap = _
          rw [HLen.out]
        · exact ((Mod.of_ext (S := [g]) HE2.out).trans hm').to_ext (by simp; omega)
    · have HPk := Lib.hid hpick
      have HA := Lib.hid hAt
      have HMd := Lib.hid hmod
      obtain ⟨k2, hent⟩ := hAt.entry Tryz.prog
      have hval : val ∈ L.map Ent.val := (HP.out.mem_iff).1 (by rw [List.mem_append]; right; exact HPk.out.mem_iff.2 (List.mem_cons_self ..))
      obtain ⟨ent, hmem, rfl⟩ := List.mem_map.1 hval
      clear hpick hAt hmod hval
      have hown2 : w2.ownsRow (w.heap.size + 1) 96 4 u3 xs.length (xs.flatMap Ent.cells) := ownsRow_mod HO.out HMd.out (by simp)
      have HO2 := Lib.hid hown2
      have hxl : xs.length ≤ 12 := by
        have := HP.out.length_eq; simp at this; omega
      clear hown2
      unfold Ent.val at hn hent
      go_wp2_with (at_builtin; refine wpList_append_lies _ rfl _ _ 99 rfl (w.heap.size + 1) 96 i0 (.agg #[i64 0, i64 0, i64 0, i64 0]) 4 32 Tryz.underlying99 hi hz0 hz1 hz2 rfl (by decide) u3 xs.length _ rfl ((HO2.out.alloc _).alloc _) ⟨wr.heap.size + 1, 0, none⟩ 1 1 ent.cells rfl rfl (news_ent ent (Blk.at _ _ _ _ (by simp; omega))) (ent_oneCell ent) (by omega) (by unfold maxLen; omega) (by omega) (by simp; omega) _ rfl ?_; intro g cap w3 hown hgrow hat hlt)
      go_roundw
      case rel =>
        have HBk : ∀ j, u3.ownBlock = some j → w.heap.size + 1 ≤ j := fun j hj => (HO.out.lt j hj).1
        have hsame : ∀ k, k ≤ w.heap.size → w3.heap[k]? = w2.heap[k]? := by
          intro k hk
          rw [hgrow.block k (by simp; omega) (by intro hh; have := HBk _ hh.symm; omega), Below.heap_alloc _ _ _ (by simp; omega), Below.heap_alloc _ _ _ (by omega)]
        have hrlt := HM.out.lt
        refine ⟨xs ++ [ent], left', HA.out.iter.same (hsame r (by omega)) (hsame _ (Nat.le_refl _)), ?_, ?_, ?_, ?_, ?_⟩
        · rw [List.map_append, List.append_assoc]
          exact (List.Perm.append_left _ HPk.out.symm).trans HP.out
        · rw [List.length_append, List.flatMap_append]; simpa using hown
        · have M : Mod [w.heap.size] w w3 := Mod.grown (Mod.alloc (Mod.alloc (Mod.trans (Mod.of_ext HE2.out) HMd.out) _) _) hgrow (by intro j hj; have := HBk _ hj; right; omega)
          exact M.to_ext (by simp)
        · have := hgrow.size; simp at this; omega
        · simp
      case measure =>
        have HBk : ∀ j, u3.ownBlock = some j → w.heap.size + 1 ≤ j := fun j hj => (HO.out.lt j hj).1
        have hsame : ∀ k, k ≤ w.heap.size → w3.heap[k]? = w2.heap[k]? := by
          intro k hk
          rw [hgrow.block k (by simp; omega) (by intro hh; have := HBk _ hh.symm; omega), Below.heap_alloc _ _ _ (by simp; omega), Below.heap_alloc _ _ _ (by omega)]
        have hrlt := HM.out.lt
        have hi3 := HA.out.iter.same (hsame r (by omega)) (hsame _ (Nat.le_refl _))
        rw [hi3.leftN, HIt.out.leftN]
        have := HPk.out.length_eq
        simp at this; omega
end

section
theorem all_calls (b : Nat) (m : Option Nat) (last : Int) (L : List Ent) (w : World) (h : BookIs w b m last L) (hl : L.length ≤ 12) (hs : L.Pairwise (fun x y => x.mv < y.mv)) :
    Calls Tryz.prog 45 #[.pointer (some ⟨b, 0, none⟩)] w (AllPost L w) := by
  cases m with
  | none => have := h.mnone rfl; subst this; exact all_none b last w h
  | some r => exact all_some b r last L w h hl hs

/-- the entry of a shard -/
def entOf (L : List Ent) (part : Int) : Option Ent := L.find? (fun e => e.part == part)

theorem atKey_entOf (L : List Ent) (part : Int) : atKey part (L.map fun e => (e.part, e.val)) = (entOf L part).map Ent.val := by
  induction L with
  | nil => rfl
  | cons a r ih =>
    rw [List.map_cons, atKey_cons, ih]
    unfold entOf
    rw [List.find?_cons]
    by_cases h : part = a.part
    · simp [h]
    · have : (a.part == part) = false := by simpa using fun e => h e.symm
      simp [h, this]

def zeroEnt : Ent := ⟨0, 0, 0, 0⟩

def OfPost (o : Option Ent) (w : World) (e : Ending) (w' : World) : Prop :=
  e = .returned (.tuple #[(o.getD zeroEnt).val, .bool o.isSome]) ∧ Ext w w'

set_option maxRecDepth 100000 in
theorem of_calls (b : Nat) (m : Option Nat) (last : Int) (L : List Ent) (part : Int) (w : World) (h : BookIs w b m last L) :
    Calls Tryz.prog 44 #[.pointer (some ⟨b, 0, none⟩), i64 part] w (OfPost (entOf L part) w) := by
  have hb := h.blk.lt
  obtain ⟨c0, f0⟩ := h.blk.read
  have hl : (Instr.lookup 116 (.map m) (i64 part) true).run Tryz.prog (w.alloc (.cells #[i64 0, i64 0, i64 0, i64 0] 96)) = .ok (.tuple #[((entOf L part).getD zeroEnt).val, .bool (entOf L part).isSome]) (w.alloc (.cells #[i64 0, i64 0, i64 0, i64 0] 96)) := by
    have ha := atKey_entOf L part
    cases m with
    | none =>
      have := h.mnone rfl; subst this
      exact run_look_nil Tryz.underlying116 Tryz.underlying3 _ part true (Tryz.zeroValue96 _)
    | some r =>
      have hM := (h.msome r rfl).alloc (.cells #[i64 0, i64 0, i64 0, i64 0] 96)
      cases ho : entOf L part with
      | none => rw [ho] at ha; exact run_look_none Tryz.underlying116 Tryz.underlying3 hM part true (Tryz.zeroValue96 _) ha
      | some e => rw [ho] at ha; exact run_look_some Tryz.underlying116 Tryz.underlying3 hM part true ha
  unfold OfPost
  generalize (entOf L part).isSome = s at *
  generalize (entOf L part).getD zeroEnt = e at *
  unfold Ent.val at *
  go_enter Tryz.func44, Tryz.ntmps44
  go_wp2_with fail
  refine bodyPost_ret (v := .tuple #[e.val, .bool s]) (by simp [results, Tryz.results44, go_sem, Ent.val]) rfl ⟨rfl, ?_⟩
  (refine Mod.to_ext (S := []) ?_ (by simp); repeat (first | (with_reducible exact Mod.refl _ _) | (with_reducible assumption) | (with_reducible refine Mod.alloc ?_ _) | (with_reducible refine Mod.drew ?_) | (with_reducible refine Mod.drewN ?_ _)))

/-- the entries without a shard's -/
def delEnt (L : List Ent) (part : Int) : List Ent := L.eraseP (fun e => e.part == part)

theorem delKey_delEnt (L : List Ent) (part : Int) : delKey part (L.map fun e => (e.part, e.val)) = (delEnt L part).map fun e => (e.part, e.val) := by
  induction L with
  | nil => rfl
  | cons a r ih =>
    unfold delEnt
    rw [List.map_cons, delKey, List.eraseP_cons]
    by_cases h : part = a.part
    · simp [h]
    · have : (a.part == part) = false := by simpa using fun e => h e.symm
      rw [if_neg h, this, ih]; rfl

theorem BookIs.ext {w w' : World} {b : Nat} {m : Option Nat} {last : Int} {L : List Ent} (h : BookIs w b m last L) (e : Ext w w') : BookIs w' b m last L :=
  ⟨h.blk.ext e, h.mnone, fun r hr => (h.msome r hr).ext e⟩

theorem BookIs.mod {S : List Nat} {w w' : World} {b : Nat} {m : Option Nat} {last : Int} {L : List Ent} (h : BookIs w b m last L) (e : Mod S w w') (hb : b ∉ S) (hm : ∀ r, m = some r → r ∉ S) : BookIs w' b m last L :=
  ⟨h.blk.mod e hb, h.mnone, fun r hr => (h.msome r hr).mod e (hm r hr)⟩

def EndPost (b : Nat) (m : Option Nat) (last : Int) (L : List Ent) (part : Int) (w : World) (e : Ending) (w' : World) : Prop :=
  e = .returned (.bool (entOf L part).isSome) ∧ BookIs w' b m last (delEnt L part) ∧ Mod m.toList w w'

theorem delEnt_none {L : List Ent} {part : Int} (h : entOf L part = none) : delEnt L part = L := by
  unfold delEnt entOf at *
  rw [List.find?_eq_none] at h
  exact List.eraseP_of_forall_not h

set_option maxRecDepth 100000 in
theorem end_calls (b : Nat) (m : Option Nat) (last : Int) (L : List Ent) (part : Int) (w : World) (h : BookIs w b m last L) (hbm : m ≠ some b) :
    Calls Tryz.prog 66 #[.pointer (some ⟨b, 0, none⟩), i64 part] w (EndPost b m last L part w) := by
  have R := of_calls b m last L part w h
  unfold OfPost at R
  cases ho : entOf L part with
  | none =>
    rw [ho] at R
    have Ho := Lib.hid ho
    clear ho
    go_enter Tryz.func66, Tryz.ntmps66
    go_wp2_with fail
    refine R.mono ?_
    rintro e w1 ⟨rfl, hE⟩
    have HE := Lib.hid hE
    clear hE R
    simp only [Option.getD_none, Option.isSome_none]
    unfold zeroEnt Ent.val
    go_wp2_with fail
    go_ret
    unfold EndPost
    rw [Ho.out, delEnt_none Ho.out]
    have E2 : Ext w (w1.alloc (.cells #[i64 0, i64 0, i64 0, i64 0] 96)) := HE.out.trans (by (refine Mod.to_ext (S := []) ?_ (by simp); repeat (first | (with_reducible exact Mod.refl _ _) | (with_reducible assumption) | (with_reducible refine Mod.alloc ?_ _) | (with_reducible refine Mod.drew ?_) | (with_reducible refine Mod.drewN ?_ _))))
    exact ⟨rfl, h.ext E2, Mod.of_ext E2⟩
  | some e0 =>
    rw [ho] at R
    have Ho := Lib.hid ho
    obtain ⟨r, rfl⟩ : ∃ r, m = some r := by
      cases m with
      | none => have := h.mnone rfl; subst this; cases ho
      | some r => exact ⟨r, rfl⟩
    clear ho
    have hne : b ≠ r := fun e => hbm (by rw [e])
    go_enter Tryz.func66, Tryz.ntmps66
    go_wp2_with fail
    refine R.mono ?_
    rintro e w1 ⟨rfl, hE⟩
    have E2 : Ext w (w1.alloc (.cells #[i64 e0.mv, i64 e0.part, i64 e0.fr, i64 e0.dst] 96)) := hE.trans (by (refine Mod.to_ext (S := []) ?_ (by simp); repeat (first | (with_reducible exact Mod.refl _ _) | (with_reducible assumption) | (with_reducible refine Mod.alloc ?_ _) | (with_reducible refine Mod.drew ?_) | (with_reducible refine Mod.drewN ?_ _))))
    have h2 := h.ext E2
    obtain ⟨w2, hdel, hM2, hmod, hsz⟩ := run_del (P := Tryz.prog) Tryz.underlying116 Tryz.underlying3 (h2.msome r rfl) part 0
    obtain ⟨c1, f1⟩ := (h.blk.ext hE).read
    have hb := (h.blk.ext hE).lt
    have HE2 := Lib.hid E2
    have Hh2 := Lib.hid h2
    have HM2 := Lib.hid hM2
    have Hmod := Lib.hid hmod
    clear hE R E2 h2 hM2 hmod
    simp only [Option.getD_some, Option.isSome_some]
    unfold Ent.val
    go_wp2_with fail
    go_ret
    unfold EndPost
    rw [Ho.out]
    refine ⟨rfl, ⟨(HE2.out |> h.ext).blk.mod Hmod.out (by simpa using hne), fun e => (by cases e), ?_⟩, ?_⟩
    · intro r' hr'
      cases hr'
      rw [← delKey_delEnt]; exact HM2.out
    · exact (Mod.of_ext HE2.out).trans Hmod.out

/-- the entry of a number -/
def entBy (L : List Ent) (n : Int) : Option Ent := L.find? (fun e => e.mv == n)

theorem find_take_none {α : Type} {p : α → Bool} {L : List α} {k : Nat} (hk : k < L.length) (h : ∀ x ∈ L.take k, p x = false) (hp : p L[k] = true) : L.find? p = some L[k] := by
  have hs : L = L.take k ++ L[k] :: L.drop (k + 1) := by
    conv => lhs; rw [← List.take_append_drop k L]
    rw [List.drop_eq_getElem_cons hk]
  conv => lhs; rw [hs]
  rw [List.find?_append, List.find?_eq_none.2 (by intro x hx; simpa using h x hx), Option.none_or, List.find?_cons_of_pos hp]

set_option maxRecDepth 100000 in
theorem by_calls (b : Nat) (m : Option Nat) (last : Int) (L : List Ent) (n : Int) (w : World) (h : BookIs w b m last L) (hl : L.length ≤ 12) (hs : L.Pairwise (fun x y => x.mv < y.mv)) :
    Calls Tryz.prog 47 #[.pointer (some ⟨b, 0, none⟩), i64 n] w (OfPost (entBy L n) w) := by
  have E1 : Ext w (w.alloc (.cells #[i64 0, i64 0, i64 0, i64 0] 96)) := by (refine Mod.to_ext (S := []) ?_ (by simp); repeat (first | (with_reducible exact Mod.refl _ _) | (with_reducible assumption) | (with_reducible refine Mod.alloc ?_ _) | (with_reducible refine Mod.drew ?_) | (with_reducible refine Mod.drewN ?_ _)))
  have R := all_calls b m last L _ (h.ext E1) hl hs
  have Hs := Lib.hid hs
  clear hs
  go_enter Tryz.func47, Tryz.ntmps47
  go_wp2_with fail
  refine R.mono ?_
  rintro e w1 ⟨v, rfl, hv, hE⟩
  have B0 := (Blk.new w [i64 0, i64 0, i64 0, i64 0] 96).ext hE
  have HE := Lib.hid (E1.trans hE)
  have hb0 := B0.lt
  clear R hE E1
  rcases hv with ⟨rfl, rfl⟩ | ⟨hL, g, cap, rfl, hEB⟩
  · obtain ⟨c0, f0⟩ := B0.read
    go_wp2_with fail
    refine wp_loop_once ?_
    go_wp2_with fail
    refine bodyPost_ret (v := .tuple #[zeroEnt.val, .bool false]) (by simp [results, Tryz.results47, go_sem, Ent.val, zeroEnt, c0]) rfl ?_
    refine ⟨rfl, Mod.to_ext (S := [w.heap.size]) ?_ (by simp)⟩
    have M0 : Mod [w.heap.size] w w1 := Mod.of_ext HE.out
    repeat (first | (with_reducible exact Mod.refl _ _) | (with_reducible assumption) | (with_reducible refine Mod.setCell ?_ (by simp) _) | (with_reducible refine Mod.alloc ?_ _) | (with_reducible refine Mod.drew ?_) | (with_reducible refine Mod.drewN ?_ _))
  · have HL := Lib.hid hL
    have HEB := Lib.hid hEB
    have HB0 := Lib.hid B0
    clear hL hEB B0
    go_wp2_with fail
    go_loopw [11] (fun i wr => ∃ k : Nat, k ≤ L.length ∧ i = i64 k ∧ (∀ x ∈ L.take k, (x.mv == n) = false) ∧ Ext w1 wr) (fun i _ => L.length - (intOf i).toNat)
    case atStart => exact ⟨0, Nat.zero_le _, rfl, by simp, Below.refl _ _⟩
    case round =>
      obtain ⟨k, hk, rfl, hpre, hX⟩ := hrel
      have HP := Lib.hid hpre
      have HX := Lib.hid hX
      obtain ⟨c0, f0⟩ := (HB0.out.ext hX).read
      have hb1 := (HB0.out.ext hX).lt
      clear hpre hX
      by_cases hlt : k < L.length
      · obtain ⟨a1, a2, a3, a4⟩ := (HEB.out.ext HX.out).cells k hlt
        by_cases hn : L[k].mv = n
        · have hq : (L[k].mv == n) = true := by simpa using hn
          have Hn := Lib.hid hn
          clear hn
          go_wp2_with fail
          refine bodyPost_ret (v := .tuple #[L[k].val, .bool true]) (by simp [results, Tryz.results47, go_sem, Ent.val, c0, hb1]) rfl ?_
          have hf : entBy L n = some L[k] := find_take_none hlt HP.out hq
          refine ⟨by rw [hf]; rfl, Mod.to_ext (S := [w.heap.size]) ?_ (by simp)⟩
          have M0 : Mod [w.heap.size] w wr := Mod.of_ext (HE.out.trans HX.out)
          repeat (first | (with_reducible exact Mod.refl _ _) | (with_reducible assumption) | (with_reducible refine Mod.setCell ?_ (by simp) _) | (with_reducible refine Mod.alloc ?_ _) | (with_reducible refine Mod.drew ?_) | (with_reducible refine Mod.drewN ?_ _))
        · have hq : (L[k].mv == n) = false := by simpa using hn
          have Hn := Lib.hid hn
          clear hn
          go_wp2_with fail
          go_roundw
          case rel =>
            refine ⟨k + 1, by omega, by go_num, ?_, HX.out.trans (by (refine Mod.to_ext (S := []) ?_ (by simp); repeat (first | (with_reducible exact Mod.refl _ _) | (with_reducible assumption) | (with_reducible refine Mod.alloc ?_ _) | (with_reducible refine Mod.drew ?_) | (with_reducible refine Mod.drewN ?_ _))))⟩
            intro x hx
            rw [List.take_succ_eq_append_getElem hlt, List.mem_append] at hx
            rcases hx with hx | hx
            · exact HP.out x hx
            · simp at hx; subst hx; exact hq
          case measure => simp [intOf]; omega
      · go_wp2_with fail
        refine bodyPost_ret (v := .tuple #[zeroEnt.val, .bool false]) (by simp [results, Tryz.results47, go_sem, Ent.val, zeroEnt, c0]) rfl ?_
        have hf : entBy L n = none := by
          unfold entBy
          rw [List.find?_eq_none]
          intro x hx
          have := HP.out x (by rw [List.take_of_length_le (by omega)]; exact hx)
          simpa using this
        refine ⟨by rw [hf]; rfl, Mod.to_ext (S := [w.heap.size]) ?_ (by simp)⟩
        have M0 : Mod [w.heap.size] w wr := Mod.of_ext (HE.out.trans HX.out)
        repeat (first | (with_reducible exact Mod.refl _ _) | (with_reducible assumption) | (with_reducible refine Mod.setCell ?_ (by simp) _) | (with_reducible refine Mod.alloc ?_ _) | (with_reducible refine Mod.drew ?_) | (with_reducible refine Mod.drewN ?_ _))
end
end Go.Proofs.YtchmhkdnegngdaaGreat
