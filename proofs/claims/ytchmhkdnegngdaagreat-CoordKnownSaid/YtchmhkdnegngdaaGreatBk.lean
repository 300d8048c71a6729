/- Book: Of, End, By. -/
import Derived.Test.YtchmhkdnegngdaaGreatAl
set_option linter.unusedVariables false
set_option linter.unusedSimpArgs false
namespace Go.Proofs.YtchmhkdnegngdaaGreat
open Go.RowKit


theorem all_calls (b : Nat) (m : Option Nat) (last : Int) (L : List Ent) (w : World) (h : BookIs w b m last L) (hl : L.length ≤ 12) (hs : L.Pairwise (fun x y => x.mv < y.mv)) :
    Calls Tryz.prog 45 #[.pointer (some ⟨b, 0, none⟩)] w (AllPost L w) := by
  cases m with
  | none => have := h.mnone rfl; subst this; exact all_none b last w h
  | some r => exact all_some b r last L w h hl hs

/-- the entry of a shard -/
def entOf (L : List Ent) (part : Int) : Option Ent := L.find? (fun e => e.part == part)

theorem atKey_entOf (L : List Ent) (part : Int) : atKey part (L.map fun e => (e.part, e.val)) = (entOf L part).map Ent.val := by
  induction L with
  | nil => rfl
  | cons a r ih =>
    rw [List.map_cons, atKey_cons, ih]
    unfold entOf
    rw [List.find?_cons]
    by_cases h : part = a.part
    · simp [h]
    · have : (a.part == part) = false := by simpa using fun e => h e.symm
      simp [h, this]

def zeroEnt : Ent := ⟨0, 0, 0, 0⟩

def OfPost (o : Option Ent) (w : World) (e : Ending) (w' : World) : Prop :=
  e = .returned (.tuple #[(o.getD zeroEnt).val, .bool o.isSome]) ∧ Ext w w'

set_option maxRecDepth 100000 in
theorem of_calls (b : Nat) (m : Option Nat) (last : Int) (L : List Ent) (part : Int) (w : World) (h : BookIs w b m last L) :
    Calls Tryz.prog 44 #[.pointer (some ⟨b, 0, none⟩), i64 part] w (OfPost (entOf L part) w) := by
  have hb := h.blk.lt
  obtain ⟨c0, f0⟩ := h.blk.read
  have hl : (Instr.lookup 116 (.map m) (i64 part) true).run Tryz.prog (w.alloc (.cells #[i64 0, i64 0, i64 0, i64 0] 96)) = .ok (.tuple #[((entOf L part).getD zeroEnt).val, .bool (entOf L part).isSome]) (w.alloc (.cells #[i64 0, i64 0, i64 0, i64 0] 96)) := by
    have ha := atKey_entOf L part
    cases m with
    | none =>
      have := h.mnone rfl; subst this
      exact run_look_nil Tryz.underlying116 Tryz.underlying3 _ part true (Tryz.zeroValue96 _)
    | some r =>
      have hM := (h.msome r rfl).alloc (.cells #[i64 0, i64 0, i64 0, i64 0] 96)
      cases ho : entOf L part with
      | none => rw [ho] at ha; exact run_look_none Tryz.underlying116 Tryz.underlying3 hM part true (Tryz.zeroValue96 _) ha
      | some e => rw [ho] at ha; exact run_look_some Tryz.underlying116 Tryz.underlying3 hM part true ha
  unfold OfPost
  generalize (entOf L part).isSome = s at *
  generalize (entOf L part).getD zeroEnt = e at *
  unfold Ent.val at *
  go_enter Tryz.func44, Tryz.ntmps44
  go_wp2_with fail
  refine bodyPost_ret (v := .tuple #[e.val, .bool s]) (by simp [results, Tryz.results44, go_sem, Ent.val]) rfl ⟨rfl, ?_⟩
  (refine Mod.to_ext (S := []) ?_ (by simp); repeat (first | (with_reducible exact Mod.refl _ _) | (with_reducible assumption) | (with_reducible refine Mod.alloc ?_ _) | (with_reducible refine Mod.drew ?_) | (with_reducible refine Mod.drewN ?_ _)))

/-- the entries without a shard's -/
def delEnt (L : List Ent) (part : Int) : List Ent := L.eraseP (fun e => e.part == part)

theorem delKey_delEnt (L : List Ent) (part : Int) : delKey part (L.map fun e => (e.part, e.val)) = (delEnt L part).map fun e => (e.part, e.val) := by
  induction L with
  | nil => rfl
  | cons a r ih =>
    unfold delEnt
    rw [List.map_cons, delKey, List.eraseP_cons]
    by_cases h : part = a.part
    · simp [h]
    · have : (a.part == part) = false := by simpa using fun e => h e.symm
      rw [if_neg h, this, ih]; rfl

theorem BookIs.ext {w w' : World} {b : Nat} {m : Option Nat} {last : Int} {L : List Ent} (h : BookIs w b m last L) (e : Ext w w') : BookIs w' b m last L :=
  ⟨h.blk.ext e, h.mnone, fun r hr => (h.msome r hr).ext e⟩

theorem BookIs.mod {S : List Nat} {w w' : World} {b : Nat} {m : Option Nat} {last : Int} {L : List Ent} (h : BookIs w b m last L) (e : Mod S w w') (hb : b ∉ S) (hm : ∀ r, m = some r → r ∉ S) : BookIs w' b m last L :=
  ⟨h.blk.mod e hb, h.mnone, fun r hr => (h.msome r hr).mod e (hm r hr)⟩

def EndPost (b : Nat) (m : Option Nat) (last : Int) (L : List Ent) (part : Int) (w : World) (e : Ending) (w' : World) : Prop :=
  e = .returned (.bool (entOf L part).isSome) ∧ BookIs w' b m last (delEnt L part) ∧ Mod m.toList w w'

theorem delEnt_none {L : List Ent} {part : Int} (h : entOf L part = none) : delEnt L part = L := by
  unfold delEnt entOf at *
  rw [List.find?_eq_none] at h
  exact List.eraseP_of_forall_not h

set_option maxRecDepth 100000 in
theorem end_calls (b : Nat) (m : Option Nat) (last : Int) (L : List Ent) (part : Int) (w : World) (h : BookIs w b m last L) (hbm : m ≠ some b) :
    Calls Tryz.prog 66 #[.pointer (some ⟨b, 0, none⟩), i64 part] w (EndPost b m last L part w) := by
  have R := of_calls b m last L part w h
  unfold OfPost at R
  cases ho : entOf L part with
  | none =>
    rw [ho] at R
    have Ho := Lib.hid ho
    clear ho
    go_enter Tryz.func66, Tryz.ntmps66
    go_wp2_with fail
    refine R.mono ?_
    rintro e w1 ⟨rfl, hE⟩
    have HE := Lib.hid hE
    clear hE R
    simp only [Option.getD_none, Option.isSome_none]
    unfold zeroEnt Ent.val
    go_wp2_with fail
    go_ret
    unfold EndPost
    rw [Ho.out, delEnt_none Ho.out]
    have E2 : Ext w (w1.alloc (.cells #[i64 0, i64 0, i64 0, i64 0] 96)) := HE.out.trans (by (refine Mod.to_ext (S := []) ?_ (by simp); repeat (first | (with_reducible exact Mod.refl _ _) | (with_reducible assumption) | (with_reducible refine Mod.alloc ?_ _) | (with_reducible refine Mod.drew ?_) | (with_reducible refine Mod.drewN ?_ _))))
    exact ⟨rfl, h.ext E2, Mod.of_ext E2⟩
  | some e0 =>
    rw [ho] at R
    have Ho := Lib.hid ho
    obtain ⟨r, rfl⟩ : ∃ r, m = some r := by
      cases m with
      | none => have := h.mnone rfl; subst this; cases ho
      | some r => exact ⟨r, rfl⟩
    clear ho
    have hne : b ≠ r := fun e => hbm (by rw [e])
    go_enter Tryz.func66, Tryz.ntmps66
    go_wp2_with fail
    refine R.mono ?_
    rintro e w1 ⟨rfl, hE⟩
    have E2 : Ext w (w1.alloc (.cells #[i64 e0.mv, i64 e0.part, i64 e0.fr, i64 e0.dst] 96)) := hE.trans (by (refine Mod.to_ext (S := []) ?_ (by simp); repeat (first | (with_reducible exact Mod.refl _ _) | (with_reducible assumption) | (with_reducible refine Mod.alloc ?_ _) | (with_reducible refine Mod.drew ?_) | (with_reducible refine Mod.drewN ?_ _))))
    have h2 := h.ext E2
    obtain ⟨w2, hdel, hM2, hmod, hsz⟩ := run_del (P := Tryz.prog) Tryz.underlying116 Tryz.underlying3 (h2.msome r rfl) part 0
    obtain ⟨c1, f1⟩ := (h.blk.ext hE).read
    have hb := (h.blk.ext hE).lt
    have HE2 := Lib.hid E2
    have Hh2 := Lib.hid h2
    have HM2 := Lib.hid hM2
    have Hmod := Lib.hid hmod
    clear hE R E2 h2 hM2 hmod
    simp only [Option.getD_some, Option.isSome_some]
    unfold Ent.val
    go_wp2_with fail
    go_ret
    unfold EndPost
    rw [Ho.out]
    refine ⟨rfl, ⟨(HE2.out |> h.ext).blk.mod Hmod.out (by simpa using hne), fun e => (by cases e), ?_⟩, ?_⟩
    · intro r' hr'
      cases hr'
      rw [← delKey_delEnt]; exact HM2.out
    · exact (Mod.of_ext HE2.out).trans Hmod.out

/-- the entry of a number -/
def entBy (L : List Ent) (n : Int) : Option Ent := L.find? (fun e => e.mv == n)

theorem find_take_none {α : Type} {p : α → Bool} {L : List α} {k : Nat} (hk : k < L.length) (h : ∀ x ∈ L.take k, p x = false) (hp : p L[k] = true) : L.find? p = some L[k] := by
  have hs : L = L.take k ++ L[k] :: L.drop (k + 1) := by
    conv => lhs; rw [← List.take_append_drop k L]
    rw [List.drop_eq_getElem_cons hk]
  conv => lhs; rw [hs]
  rw [List.find?_append, List.find?_eq_none.2 (by intro x hx; simpa using h x hx), Option.none_or, List.find?_cons_of_pos hp]

set_option maxRecDepth 100000 in
theorem by_calls (b : Nat) (m : Option Nat) (last : Int) (L : List Ent) (n : Int) (w : World) (h : BookIs w b m last L) (hl : L.length ≤ 12) (hs : L.Pairwise (fun x y => x.mv < y.mv)) :
    Calls Tryz.prog 47 #[.pointer (some ⟨b, 0, none⟩), i64 n] w (OfPost (entBy L n) w) := by
  have E1 : Ext w (w.alloc (.cells #[i64 0, i64 0, i64 0, i64 0] 96)) := by (refine Mod.to_ext (S := []) ?_ (by simp); repeat (first | (with_reducible exact Mod.refl _ _) | (with_reducible assumption) | (with_reducible refine Mod.alloc ?_ _) | (with_reducible refine Mod.drew ?_) | (with_reducible refine Mod.drewN ?_ _)))
  have R := all_calls b m last L _ (h.ext E1) hl hs
  have Hs := Lib.hid hs
  clear hs
  go_enter Tryz.func47, Tryz.ntmps47
  go_wp2_with fail
  refine R.mono ?_
  rintro e w1 ⟨v, rfl, hv, hE⟩
  have B0 := (Blk.new w [i64 0, i64 0, i64 0, i64 0] 96).ext hE
  have HE := Lib.hid (E1.trans hE)
  have hb0 := B0.lt
  clear R hE E1
  rcases hv with ⟨rfl, rfl⟩ | ⟨hL, g, cap, rfl, hEB⟩
  · obtain ⟨c0, f0⟩ := B0.read
    go_wp2_with fail
    refine wp_loop_once ?_
    go_wp2_with fail
    refine bodyPost_ret (v := .tuple #[zeroEnt.val, .bool false]) (by simp [results, Tryz.results47, go_sem, Ent.val, zeroEnt, c0]) rfl ?_
    refine ⟨rfl, Mod.to_ext (S := [w.heap.size]) ?_ (by simp)⟩
    have M0 : Mod [w.heap.size] w w1 := Mod.of_ext HE.out
    repeat (first | (with_reducible exact Mod.refl _ _) | (with_reducible assumption) | (with_reducible refine Mod.setCell ?_ (by simp) _) | (with_reducible refine Mod.alloc ?_ _) | (with_reducible refine Mod.drew ?_) | (with_reducible refine Mod.drewN ?_ _))
  · have HL := Lib.hid hL
    have HEB := Lib.hid hEB
    have HB0 := Lib.hid B0
    clear hL hEB B0
    go_wp2_with fail
    go_loopw [11] (fun i wr => ∃ k : Nat, k ≤ L.length ∧ i = i64 k ∧ (∀ x ∈ L.take k, (x.mv == n) = false) ∧ Ext w1 wr) (fun i _ => L.length - (intOf i).toNat)
    case atStart => exact ⟨0, Nat.zero_le _, rfl, by simp, Below.refl _ _⟩
    case round =>
      obtain ⟨k, hk, rfl, hpre, hX⟩ := hrel
      have HP := Lib.hid hpre
      have HX := Lib.hid hX
      obtain ⟨c0, f0⟩ := (HB0.out.ext hX).read
      have hb1 := (HB0.out.ext hX).lt
      clear hpre hX
      by_cases hlt : k < L.length
      · obtain ⟨a1, a2, a3, a4⟩ := (HEB.out.ext HX.out).cells k hlt
        by_cases hn : L[k].mv = n
        · have hq : (L[k].mv == n) = true := by simpa using hn
          have Hn := Lib.hid hn
          clear hn
          go_wp2_with fail
          refine bodyPost_ret (v := .tuple #[L[k].val, .bool true]) (by simp [results, Tryz.results47, go_sem, Ent.val, c0, hb1]) rfl ?_
          have hf : entBy L n = some L[k] := find_take_none hlt HP.out hq
          refine ⟨by rw [hf]; rfl, Mod.to_ext (S := [w.heap.size]) ?_ (by simp)⟩
          have M0 : Mod [w.heap.size] w wr := Mod.of_ext (HE.out.trans HX.out)
          repeat (first | (with_reducible exact Mod.refl _ _) | (with_reducible assumption) | (with_reducible refine Mod.setCell ?_ (by simp) _) | (with_reducible refine Mod.alloc ?_ _) | (with_reducible refine Mod.drew ?_) | (with_reducible refine Mod.drewN ?_ _))
        · have hq : (L[k].mv == n) = false := by simpa using hn
          have Hn := Lib.hid hn
          clear hn
          go_wp2_with fail
          go_roundw
          case rel =>
            refine ⟨k + 1, by omega, by go_num, ?_, HX.out.trans (by (refine Mod.to_ext (S := []) ?_ (by simp); repeat (first | (with_reducible exact Mod.refl _ _) | (with_reducible assumption) | (with_reducible refine Mod.alloc ?_ _) | (with_reducible refine Mod.drew ?_) | (with_reducible refine Mod.drewN ?_ _))))⟩
            intro x hx
            rw [List.take_succ_eq_append_getElem hlt, List.mem_append] at hx
            rcases hx with hx | hx
            · exact HP.out x hx
            · simp at hx; subst hx; exact hq
          case measure => simp [intOf]; omega
      · go_wp2_with fail
        refine bodyPost_ret (v := .tuple #[zeroEnt.val, .bool false]) (by simp [results, Tryz.results47, go_sem, Ent.val, zeroEnt, c0]) rfl ?_
        have hf : entBy L n = none := by
          unfold entBy
          rw [List.find?_eq_none]
          intro x hx
          have := HP.out x (by rw [List.take_of_length_le (by omega)]; exact hx)
          simpa using this
        refine ⟨by rw [hf]; rfl, Mod.to_ext (S := [w.heap.size]) ?_ (by simp)⟩
        have M0 : Mod [w.heap.size] w wr := Mod.of_ext (HE.out.trans HX.out)
        repeat (first | (with_reducible exact Mod.refl _ _) | (with_reducible assumption) | (with_reducible refine Mod.setCell ?_ (by simp) _) | (with_reducible refine Mod.alloc ?_ _) | (with_reducible refine Mod.drew ?_) | (with_reducible refine Mod.drewN ?_ _))
end Go.Proofs.YtchmhkdnegngdaaGreat
