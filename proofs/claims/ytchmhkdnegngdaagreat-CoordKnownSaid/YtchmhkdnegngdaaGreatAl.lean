/- Book.All. -/
import Derived.Deep.AppendLies
import Derived.Test.YtchmhkdnegngdaaGreatSo
set_option linter.unusedVariables false
set_option linter.unusedSimpArgs false
namespace Go.Proofs.YtchmhkdnegngdaaGreat
open Go.RowKit


theorem info96 : (Tryz.prog.info? 96).map (fun i => (i.zero, i.size, i.bytes)) = some (some (.agg #[i64 0, i64 0, i64 0, i64 0]), 4, 32) := by kernel_rfl

/-- the book in memory: its block, its map (none before the first order), the last number, its entries in rising number -/
structure BookIs (w : World) (b : Nat) (m : Option Nat) (last : Int) (L : List Ent) : Prop where
  blk : Blk w b [.map m, i64 last] 118
  mnone : m = none → L = []
  msome : ∀ r, m = some r → MapIs w r (L.map fun e => (e.part, e.val))

/-- a slice of entries, nil where there are none -/
def EntsAt (w : World) (v : Value) (L : List Ent) : Prop :=
  (L = [] ∧ v = .slice none 0 0) ∨ (L ≠ [] ∧ ∃ g cap, v = .slice (some ⟨g, 0, none⟩) L.length cap ∧ EB w g cap L)

def intVal : Value → Int
  | .int _ n => n
  | _ => 0

def valEnt : Value → Ent
  | .agg cs => ⟨intVal (cs.getD 0 undef), intVal (cs.getD 1 undef), intVal (cs.getD 2 undef), intVal (cs.getD 3 undef)⟩
  | _ => ⟨0, 0, 0, 0⟩

theorem ent_val (e : Ent) : valEnt e.val = e := rfl

theorem perm_of_vals {xs L : List Ent} (h : (xs.map Ent.val).Perm (L.map Ent.val)) : xs.Perm L := by
  have := h.map valEnt
  simpa [List.map_map, Function.comp_def, ent_val] using this

theorem sorted_unique : ∀ {xs L : List Ent}, xs.Perm L → xs.Pairwise (fun x y => x.mv ≤ y.mv) → L.Pairwise (fun x y => x.mv < y.mv) → xs = L
  | [], L, h, _, _ => (List.nil_perm.1 h).symm
  | x :: xs, [], h, _, _ => absurd h (by simp)
  | x :: xs, y :: L, h, h1, h2 => by
    rw [List.pairwise_cons] at h1 h2
    have hxy : x = y := by
      rcases List.mem_cons.1 (h.mem_iff.1 (List.mem_cons_self (a := x) (l := xs))) with e | hx
      · exact e
      · rcases List.mem_cons.1 (h.mem_iff.2 (List.mem_cons_self (a := y) (l := L))) with e | hy
        · exact e.symm
        · have := h1.1 y hy; have := h2.1 x hx; omega
    subst hxy
    rw [sorted_unique (h.cons_inv) h1.2 h2.2]

theorem sortFunc_nil (w : World) :
    Calls Tryz.prog 61 #[.slice none 0 0, .func (.func 62) #[] #[]] w fun e w' => e = .returned (.tuple #[]) ∧ w = w' := by
  have R : ∀ lim, Calls Tryz.prog 76 #[.slice none 0 0, i64 0, i64 0, i64 lim, .func (.func 62) #[] #[]] w fun e w' => e = .returned (.tuple #[]) ∧ w = w' := by
    intro lim
    have R2 : Calls Tryz.prog 98 #[.slice none 0 0, i64 0, i64 0, .func (.func 62) #[] #[]] w fun e w' => e = .returned (.tuple #[]) ∧ w = w' := by
      go_enter Tryz.func98, Tryz.ntmps98
      go_wp2_with fail
      refine wp_loop_once ?_
      go_wp2_with fail
      go_end0
      exact ⟨rfl, rfl⟩
    go_enter Tryz.func76, Tryz.ntmps76
    go_wp2_with fail
    refine wp_loop_once ?_
    go_wp2_with fail
    refine R2.mono ?_
    rintro e w' ⟨rfl, rfl⟩
    go_wp2_with fail
    refine bodyPost_ret (results_none rfl _ _ _) rfl ?_
    exact ⟨rfl, rfl⟩
  go_enter Tryz.func61, Tryz.ntmps61
  go_wp2_with fail
  refine (bits_Len 0 w (by omega) (by omega)).mono ?_
  rintro e w' ⟨rfl, rfl⟩
  go_wp2_with fail
  refine (R _).mono ?_
  rintro e w' ⟨rfl, rfl⟩
  go_wp2_with fail
  go_end0
  exact ⟨rfl, rfl⟩

def AllPost (L : List Ent) (w : World) (e : Ending) (w' : World) : Prop := ∃ v, e = .returned v ∧ EntsAt w' v L ∧ Ext w w'

set_option maxRecDepth 100000 in
theorem all_none (b : Nat) (last : Int) (w : World) (h : BookIs w b none last []) :
    Calls Tryz.prog 45 #[.pointer (some ⟨b, 0, none⟩)] w (AllPost [] w) := by
  obtain ⟨c0, f0⟩ := h.blk.read
  have hr : ∀ w : World, (Instr.range 116 (.map none)).run Tryz.prog w = .ok (.pointer (some ⟨w.heap.size, 0, none⟩)) (w.alloc (.mapIter none 0 #[] 0)) := by
    intro w; simp [Instr.range, Sem.run_bind, run_underlying Tryz.underlying116, Result.andThen]
  go_enter Tryz.func45, Tryz.ntmps45
  go_wp2_with fail
  have hn : ∀ ty, (Instr.next (.pointer (some ⟨w.heap.size, 0, none⟩)) false ty).run Tryz.prog (w.alloc (.mapIter none 0 #[] 0)) = .ok (.tuple #[.bool false]) (w.alloc (.mapIter none 0 #[] 0)) := by
    intro ty
    have hh : (w.alloc (.mapIter none 0 #[] 0)).heap[w.heap.size]? = some (.mapIter none 0 #[] 0) := heap_alloc_new w _
    simp only [Instr.next, getObj, Sem.run_bind, Sem.run, hh, Result.andThen]
    rfl
  refine wp_loop_once ?_
  go_wp2_with fail
  refine (sortFunc_nil _).mono ?_
  rintro e w' ⟨rfl, rfl⟩
  go_wp2_with fail
  go_ret
  unfold AllPost
  exact ⟨_, rfl, .inl ⟨rfl, rfl⟩, by (refine Mod.to_ext (S := []) ?_ (by simp); repeat (first | (with_reducible exact Mod.refl _ _) | (with_reducible assumption) | (with_reducible refine Mod.alloc ?_ _) | (with_reducible refine Mod.drew ?_) | (with_reducible refine Mod.drewN ?_ _)))⟩

theorem EntsAt.ext {w w' : World} {v : Value} {L : List Ent} (h : EntsAt w v L) (e : Ext w w') : EntsAt w' v L := by
  rcases h with h | ⟨h0, g, cap, hv, he⟩
  · exact .inl h
  · exact .inr ⟨h0, g, cap, hv, he.ext e⟩

theorem EB_of_owns {w : World} {base : Nat} {v : Value} {xs : List Ent} (h : w.ownsRow base 96 4 v xs.length (xs.flatMap Ent.cells)) (hpos : 0 < xs.length) :
    ∃ g cap, v = .slice (some ⟨g, 0, none⟩) xs.length cap ∧ base ≤ g ∧ g < w.heap.size ∧ EB w g cap xs := by
  obtain ⟨hl, h2⟩ := h
  rcases h2 with ⟨_, h0⟩ | ⟨g, cap, cur, rfl, hb, hh, hc, hm, hs, ht⟩
  · omega
  · exact ⟨g, cap, rfl, hb, lt_of_block hh, cur, hh, hs, hc, ht⟩

theorem ent_oneCell (e : Ent) : ∀ u ∈ e.cells, u.oneCell' = true := by
  intro u hu; simp [Ent.cells] at hu; rcases hu with rfl | rfl | rfl | rfl <;> rfl

theorem news_ent (e : Ent) {w : World} {g : Nat} (h : Blk w g [i64 e.mv, i64 e.part, i64 e.fr, i64 e.dst] 96) :
    ∀ (j : Nat) (u : Value), e.cells[j]? = some u → w.cell? ((⟨g, 0, none⟩ : Addr).add j) = some u := by
  intro j u hj
  rw [addr_add, Nat.zero_add]
  unfold Blk at h
  simp only [World.cell?, h, Option.isSome_none, Bool.false_eq_true, if_false]
  rw [← hj]; simp [Ent.cells]

set_option maxRecDepth 100000 in
set_option maxHeartbeats 600000 in
theorem all_some (b r : Nat) (last : Int) (L : List Ent) (w : World) (h : BookIs w b (some r) last L) (hl : L.length ≤ 12) (hs : L.Pairwise (fun x y => x.mv < y.mv)) :
    Calls Tryz.prog 45 #[.pointer (some ⟨b, 0, none⟩)] w (AllPost L w) := by
  obtain ⟨c0, f0⟩ := h.blk.read
  have hM := h.msome r rfl
  obtain ⟨i0, hi, hz0, hz1, hz2⟩ := info_parts info96
  obtain ⟨w1, hrun, hI, hE, hsz⟩ := run_range Tryz.underlying116 hM
  have HI := Lib.hid hI
  have HE := Lib.hid hE
  have hne : w.heap.size ≠ r := by have := hM.lt; omega
  have Hs := Lib.hid hs
  have HM := Lib.hid hM
  have Hh := Lib.hid h
  clear hI hE hs hM h
  go_enter Tryz.func45, Tryz.ntmps45
  go_wp2_with fail
  have hlft : ((L.map fun e => (e.part, e.val)).map (·.2)) = L.map Ent.val := by rw [List.map_map]; rfl
  go_loopw [3] (fun v wr => ∃ (xs : List Ent) (left : List Value), Iter wr w.heap.size r (L.map fun e => (e.part, e.val)) left ∧ (xs.map Ent.val ++ left).Perm (L.map Ent.val) ∧
      wr.ownsRow (w.heap.size + 1) 96 4 v xs.length (xs.flatMap Ent.cells) ∧ Ext w wr ∧ w.heap.size < wr.heap.size ∧ (xs = [] → v = .slice none 0 0)) (fun _ wr => leftN wr w.heap.size r)
  case atStart =>
    refine ⟨[], L.map Ent.val, ?_, by simp, World.ownsRow_nil _ _ _ _, HE.out, by omega, fun _ => rfl⟩
    rw [← hlft]; exact HI.out
  case round =>
    obtain ⟨xs, left, hIt, hp, ho, hE, hsz2, hnil⟩ := hrel
    have HNil := Lib.hid hnil
    clear hnil
    have hn := run_next Tryz.prog hIt hne
    have HP := Lib.hid hp
    have HO := Lib.hid ho
    have HE2 := Lib.hid hE
    have HIt := Lib.hid hIt
    clear hp ho hE hIt hlft
    rcases hn with ⟨rfl, hn⟩ | ⟨k, val, left', w2, hn, hpick, hAt, hmod, hsz3⟩
    · have hxs : xs.Perm L := perm_of_vals (by simpa using HP.out)
      have hlen : xs.length = L.length := hxs.length_eq
      by_cases h0 : xs = []
      · have hv := HNil.out h0
        subst hv
        have hL0 : L = [] := by subst h0; exact (List.nil_perm.1 hxs)
        have HL0 := Lib.hid hL0
        clear hxs hlen h0 hL0
        go_wp2_with fail
        refine (sortFunc_nil _).mono ?_
        rintro e w' ⟨rfl, rfl⟩
        go_wp2_with fail
        go_ret
        unfold AllPost
        exact ⟨_, rfl, .inl ⟨HL0.out, rfl⟩, HE2.out⟩
      · have hpos : 0 < xs.length := List.length_pos_iff.2 h0
        obtain ⟨g, cap, rfl, hb, hg, hEB⟩ := EB_of_owns HO.out hpos
        have HEB := Lib.hid hEB
        have Hx := Lib.hid hxs
        have Hn0 := Lib.hid h0
        clear hEB hxs h0
        have hx12 : xs.length ≤ 12 := by omega
        have HLen := Lib.hid hlen
        clear hlen
        go_wp2_with fail
        refine (sortFunc_calls g cap xs wr HEB.out hx12).mono ?_
        rintro e w' ⟨rfl, hh⟩
        have H := Lib.hid hh
        clear hh
        go_wp2_with fail
        go_ret
        obtain ⟨es', hE', hp', hs', hm'⟩ := H.out
        have he : es' = L := sorted_unique (hp'.trans Hx.out) hs' Hs.out
        subst he
        unfold AllPost
        refine ⟨_, rfl, .inr ⟨?_, g, cap, ?_, hE'⟩, ?_⟩
        · intro e0; subst e0; exact Hn0.out (List.eq_nil_of_length_eq_zero (by simpa using HLen.out))
        · show Value.slice (some ⟨g, 0, none⟩) xs.length cap = _
          rw [HLen.out]
        · exact ((Mod.of_ext (S := [g]) HE2.out).trans hm').to_ext (by simp; omega)
    · have HPk := Lib.hid hpick
      have HA := Lib.hid hAt
      have HMd := Lib.hid hmod
      obtain ⟨k2, hent⟩ := hAt.entry Tryz.prog
      have hval : val ∈ L.map Ent.val := (HP.out.mem_iff).1 (by rw [List.mem_append]; right; exact HPk.out.mem_iff.2 (List.mem_cons_self ..))
      obtain ⟨ent, hmem, rfl⟩ := List.mem_map.1 hval
      clear hpick hAt hmod hval
      have hown2 : w2.ownsRow (w.heap.size + 1) 96 4 u3 xs.length (xs.flatMap Ent.cells) := ownsRow_mod HO.out HMd.out (by simp)
      have HO2 := Lib.hid hown2
      have hxl : xs.length ≤ 12 := by
        have := HP.out.length_eq; simp at this; omega
      clear hown2
      unfold Ent.val at hn hent
      go_wp2_with (at_builtin; refine wpList_append_lies _ rfl _ _ 99 rfl (w.heap.size + 1) 96 i0 (.agg #[i64 0, i64 0, i64 0, i64 0]) 4 32 Tryz.underlying99 hi hz0 hz1 hz2 rfl (by decide) u3 xs.length _ rfl ((HO2.out.alloc _).alloc _) ⟨wr.heap.size + 1, 0, none⟩ 1 1 ent.cells rfl rfl (news_ent ent (Blk.at _ _ _ _ (by simp; omega))) (ent_oneCell ent) (by omega) (by unfold maxLen; omega) (by omega) (by simp; omega) _ rfl ?_; intro g cap w3 hown hgrow hat hlt)
      go_roundw
      case rel =>
        have HBk : ∀ j, u3.ownBlock = some j → w.heap.size + 1 ≤ j := fun j hj => (HO.out.lt j hj).1
        have hsame : ∀ k, k ≤ w.heap.size → w3.heap[k]? = w2.heap[k]? := by
          intro k hk
          rw [hgrow.block k (by simp; omega) (by intro hh; have := HBk _ hh.symm; omega), Below.heap_alloc _ _ _ (by simp; omega), Below.heap_alloc _ _ _ (by omega)]
        have hrlt := HM.out.lt
        refine ⟨xs ++ [ent], left', HA.out.iter.same (hsame r (by omega)) (hsame _ (Nat.le_refl _)), ?_, ?_, ?_, ?_, ?_⟩
        · rw [List.map_append, List.append_assoc]
          exact (List.Perm.append_left _ HPk.out.symm).trans HP.out
        · rw [List.length_append, List.flatMap_append]; simpa using hown
        · have M : Mod [w.heap.size] w w3 := Mod.grown (Mod.alloc (Mod.alloc (Mod.trans (Mod.of_ext HE2.out) HMd.out) _) _) hgrow (by intro j hj; have := HBk _ hj; right; omega)
          exact M.to_ext (by simp)
        · have := hgrow.size; simp at this; omega
        · simp
      case measure =>
        have HBk : ∀ j, u3.ownBlock = some j → w.heap.size + 1 ≤ j := fun j hj => (HO.out.lt j hj).1
        have hsame : ∀ k, k ≤ w.heap.size → w3.heap[k]? = w2.heap[k]? := by
          intro k hk
          rw [hgrow.block k (by simp; omega) (by intro hh; have := HBk _ hh.symm; omega), Below.heap_alloc _ _ _ (by simp; omega), Below.heap_alloc _ _ _ (by omega)]
        have hrlt := HM.out.lt
        have hi3 := HA.out.iter.same (hsame r (by omega)) (hsame _ (Nat.le_refl _))
        rw [hi3.leftN, HIt.out.leftN]
        have := HPk.out.length_eq
        simp at this; omega
end Go.Proofs.YtchmhkdnegngdaaGreat
