/-  -/
import Derived.Test.YtchmhkdnegngdaaGreatGAl
import Derived.Test.YtchmhkdnegngdaaGreatGTb
set_option linter.unusedVariables false
set_option linter.unusedSimpArgs false
namespace Go.Proofs.YtchmhkdnegngdaaGreat
open Go.RowKit

section
/-- a new order: its number (0: none) and the error -/
def orderV (ep n : Int) (xs : List Int) (last : Int) (L : List Ent) (part dst : Int) : Int × Int :=
  if mayV ep n xs part dst ≠ 0 then (0, mayV ep n xs part dst)
  else if (entOf L part).isSome then (0, 20)
  else if 2147483647 ≤ last then (0, 6)
  else (last + 1, 0)

/-- a refused order -/
def OrderNo (n e : Int) (w : World) (en : Ending) (w' : World) : Prop := en = .returned (.tuple #[i64 n, i64 e]) ∧ Ext w w'

set_option maxRecDepth 100000 in
theorem border_may (b : Nat) (m : Option Nat) (last : Int) (L : List Ent) (ep n : Int) (ob oo oc : Nat) (xs : List Int) (part dst : Int) (w : World)
    (hl : xs.length ≤ 4096) (hx : IA w ob oo xs) (hm : mayV ep n xs part dst ≠ 0) :
    Calls Tryz.prog 43 #[.pointer (some ⟨b, 0, none⟩), .agg #[i64 ep, i64 n, .slice (some ⟨ob, oo, none⟩) xs.length oc], i64 part, i64 dst] w
      (OrderNo 0 (mayV ep n xs part dst) w) := by
  have E1 : Ext w (w.alloc (.cells #[i64 ep, i64 n, .slice (some ⟨ob, oo, none⟩) xs.length oc] 28)) := by (refine Mod.to_ext (S := []) ?_ (by simp); repeat (first | (with_reducible exact Mod.refl _ _) | (with_reducible assumption) | (with_reducible refine Mod.alloc ?_ _) | (with_reducible refine Mod.drew ?_) | (with_reducible refine Mod.drewN ?_ _)))
  have R := may_calls ep n ob oo oc xs part dst _ hl (hx.ext E1)
  have hq : (mayV ep n xs part dst != 0) = true := by simpa using hm
  generalize mayV ep n xs part dst = r at *
  clear hm
  go_enter Tryz.func43, Tryz.ntmps43
  go_wp2_with fail
  refine R.mono ?_
  rintro e w1 ⟨rfl, hE⟩
  go_wp2_with fail
  go_ret2
  exact ⟨rfl, E1.trans hE⟩

set_option maxRecDepth 100000 in
theorem border_there (b : Nat) (m : Option Nat) (last : Int) (L : List Ent) (ep n : Int) (ob oo oc : Nat) (xs : List Int) (part dst : Int) (w : World)
    (h : BookIs w b m last L) (hl : xs.length ≤ 4096) (hx : IA w ob oo xs) (hm : mayV ep n xs part dst = 0) (ent : Ent) (ho : entOf L part = some ent) :
    Calls Tryz.prog 43 #[.pointer (some ⟨b, 0, none⟩), .agg #[i64 ep, i64 n, .slice (some ⟨ob, oo, none⟩) xs.length oc], i64 part, i64 dst] w
      (OrderNo 0 20 w) := by
  have E1 : Ext w (w.alloc (.cells #[i64 ep, i64 n, .slice (some ⟨ob, oo, none⟩) xs.length oc] 28)) := by (refine Mod.to_ext (S := []) ?_ (by simp); repeat (first | (with_reducible exact Mod.refl _ _) | (with_reducible assumption) | (with_reducible refine Mod.alloc ?_ _) | (with_reducible refine Mod.drew ?_) | (with_reducible refine Mod.drewN ?_ _)))
  have R := may_calls ep n ob oo oc xs part dst _ hl (hx.ext E1)
  rw [hm] at R
  clear hm
  obtain ⟨r, rfl⟩ : ∃ r, m = some r := by
    cases m with
    | none => have := h.mnone rfl; subst this; cases ho
    | some r => exact ⟨r, rfl⟩
  have Ho := Lib.hid ho
  clear ho
  have hmm := @run_makeMap Tryz.prog
  go_enter Tryz.func43, Tryz.ntmps43
  go_wp2_with fail
  refine R.mono ?_
  rintro e w1 ⟨rfl, hE⟩
  have h1 := (h.ext E1).ext hE
  obtain ⟨c1, f1⟩ := h1.blk.read
  have ha := atKey_entOf L part
  rw [Ho.out] at ha
  have hlk := run_look_some (P := Tryz.prog) Tryz.underlying116 Tryz.underlying3 (h1.msome r rfl) part true ha
  have HE := Lib.hid (E1.trans hE)
  clear ha h1 hE E1 R
  unfold Ent.val at hlk
  go_wp2_with fail
  go_ret2
  exact ⟨rfl, HE.out.trans (by (refine Mod.to_ext (S := []) ?_ (by simp); repeat (first | (with_reducible exact Mod.refl _ _) | (with_reducible assumption) | (with_reducible refine Mod.alloc ?_ _) | (with_reducible refine Mod.drew ?_) | (with_reducible refine Mod.drewN ?_ _))))⟩

/-- an order that is taken -/
def OrderYes (b : Nat) (m : Option Nat) (last : Int) (L : List Ent) (part dst x : Int) (w : World) (e : Ending) (w' : World) : Prop :=
  ∃ r, e = .returned (.tuple #[i64 (last + 1), i64 0]) ∧ BookIs w' b (some r) (last + 1) (L ++ [⟨last + 1, part, x, dst⟩]) ∧ Mod (b :: m.toList) w w' ∧ (m = some r ∨ (m = none ∧ w.heap.size ≤ r))

theorem putKey_new (L : List Ent) (e : Ent) (h : entOf L e.part = none) :
    putKey e.part e.val (L.map fun e => (e.part, e.val)) = (L ++ [e]).map fun e => (e.part, e.val) := by
  have ha := atKey_entOf L e.part
  rw [h] at ha
  unfold atKey at ha
  have hp : posOf e.part (L.map fun e => (e.part, e.val)) 0 = none := by
    cases hh : posOf e.part (L.map fun e => (e.part, e.val)) 0 with
    | none => rfl
    | some x => rw [hh] at ha; cases ha
  rw [(posOf_none e.val hp).1]; simp

theorem IA.drew {w : World} {b off : Nat} {xs : List Int} (h : IA w b off xs) : IA w.drew b off xs := h

set_option maxRecDepth 100000 in
set_option maxHeartbeats 600000 in
theorem border_ok (b : Nat) (m : Option Nat) (last : Int) (L : List Ent) (ep n : Int) (ob oo oc : Nat) (xs : List Int) (part dst : Int) (w : World)
    (h : BookIs w b m last L) (hl : xs.length ≤ 4096) (hx : IA w ob oo xs) (hm : mayV ep n xs part dst = 0) (ho : entOf L part = none) (hf : last < 2147483647) (hf0 : 0 ≤ last) (hbm : m ≠ some b) (hob : ob ≠ b) (hor : ∀ r, m = some r → ob ≠ r) :
    Calls Tryz.prog 43 #[.pointer (some ⟨b, 0, none⟩), .agg #[i64 ep, i64 n, .slice (some ⟨ob, oo, none⟩) xs.length oc], i64 part, i64 dst] w
      (OrderYes b m last L part dst (xs.getD part.toNat 0) w) := by
  have E1 : Ext w (w.alloc (.cells #[i64 ep, i64 n, .slice (some ⟨ob, oo, none⟩) xs.length oc] 28)) := by (refine Mod.to_ext (S := []) ?_ (by simp); repeat (first | (with_reducible exact Mod.refl _ _) | (with_reducible assumption) | (with_reducible refine Mod.alloc ?_ _) | (with_reducible refine Mod.drew ?_) | (with_reducible refine Mod.drewN ?_ _)))
  have R := may_calls ep n ob oo oc xs part dst _ hl (hx.ext E1)
  obtain ⟨hr, _, g2, g3, _, _, _⟩ := mayV_zero hm
  obtain ⟨p, rfl⟩ := Int.eq_ofNat_of_zero_le g2
  have hp : p < xs.length := by omega
  rw [hm] at R
  clear hm hr
  have Ho := Lib.hid ho
  clear ho
  have hb := h.blk.lt
  have hqm : ∀ (w : World) (r : Option Nat), (binOp .eql 116 (.map r) (.map none)).run Tryz.prog w = .ok (.bool r.isNone) w := fun w r => run_eql_map_nil w _ _ _ r Tryz.underlying116
  have hmm := @run_makeMap Tryz.prog
  go_enter Tryz.func43, Tryz.ntmps43
  go_wp2_with fail
  refine R.mono ?_
  rintro e w1 ⟨rfl, hE⟩
  have h1 := (h.ext E1).ext hE
  obtain ⟨c1, f1⟩ := h1.blk.read
  have ha := atKey_entOf L p
  rw [Ho.out] at ha
  have hb1 := h1.blk.lt
  have B0 := (Blk.new w [i64 ep, i64 n, .slice (some ⟨ob, oo, none⟩) xs.length oc] 28).ext hE
  obtain ⟨c0, f0⟩ := B0.read
  have HB0 := Lib.hid B0
  clear B0
  have hc := (hx.ext (E1.trans hE)).at0 hp
  cases m with
  | some r =>
    have hlk := run_look_none (P := Tryz.prog) Tryz.underlying116 Tryz.underlying3 (h1.msome r rfl) p true (Tryz.zeroValue96 _) ha
    have HE := Lib.hid (E1.trans hE)
    clear ha hE E1 R
    have HH1 := Lib.hid h1
    clear h1
    go_wp2_with fail
    have k1 := (HH1.out.blk.set 1 (.int .i64 (last + 1))).old (.cells #[.int .i64 0, .int .i64 0, .int .i64 0, .int .i64 0] 96)
    have k2 := ((HB0.out.set_other ⟨b, 1, none⟩ (.int .i64 (last + 1)) (by simp; omega)).old (.cells #[.int .i64 0, .int .i64 0, .int .i64 0, .int .i64 0] 96))
    have k3 : Mod [b] w ((w1.setCell ⟨b, 1, none⟩ (.int .i64 (last + 1))).alloc (.cells #[.int .i64 0, .int .i64 0, .int .i64 0, .int .i64 0] 96)) := by
      have M0 : Mod [b] w w1 := Mod.of_ext HE.out
      repeat (first | (with_reducible exact Mod.refl _ _) | (with_reducible assumption) | (with_reducible refine Mod.setCell ?_ (by simp) _) | (with_reducible refine Mod.alloc ?_ _) | (with_reducible refine Mod.drew ?_) | (with_reducible refine Mod.drewN ?_ _))
    have k4 := ((HH1.out.msome r rfl).mod (S := [b]) (by repeat (first | (with_reducible exact Mod.refl _ _) | (with_reducible assumption) | (with_reducible refine Mod.setCell ?_ (by simp) _) | (with_reducible refine Mod.alloc ?_ _) | (with_reducible refine Mod.drew ?_) | (with_reducible refine Mod.drewN ?_ _)) : Mod [b] w1 (w1.setCell ⟨b, 1, none⟩ (.int .i64 (last + 1)))) (by simp; exact fun e => hbm (by rw [e]))).alloc (.cells #[.int .i64 0, .int .i64 0, .int .i64 0, .int .i64 0] 96)
    clear c1 f1 c0 f0 hc HH1 HB0 HE hb1 hlk
    generalize ((w1.setCell ⟨b, 1, none⟩ (.int .i64 (last + 1))).alloc (.cells #[.int .i64 0, .int .i64 0, .int .i64 0, .int .i64 0] 96)) = W at *
    simp only [List.set_cons_succ, List.set_cons_zero] at k1
    have hcx := (hx.mod k3 (by simpa using hob)).at0 hp
    obtain ⟨c1, f1⟩ := k1.read
    obtain ⟨c2, f2⟩ := k2.read
    have hO : MapIs W.drew r (L.map fun e => (e.part, e.val)) := k4.same rfl
    obtain ⟨w2, hup, hM2, hmod, hsz⟩ := run_update (P := Tryz.prog) Tryz.underlying116 Tryz.underlying3 hO p (.agg #[i64 (last + 1), i64 p, i64 xs[p], i64 dst])
    have q1 : (0 : Int) ≤ (p : Int) := by omega
    have q2 : (p : Int) < (xs.length : Int) := by omega
    have nb : b ≠ r := fun e => hbm (by rw [e])
    have nt : w.heap.size ≠ r := by have := (h.msome r rfl).lt; omega
    have nx : ob ≠ r := hor r rfl
    have e1 := Blk.mod (w := W.drew) k1 hmod (by simpa using nb)
    obtain ⟨d1, g1⟩ := e1.read
    obtain ⟨d2, g2⟩ := (Blk.mod (w := W.drew) k2 hmod (by simpa using nt)).read
    have ix := hx.mod k3 (by simpa using hob)
    have dx := (IA.mod ix.drew hmod (by simpa using nx)).at0 hp
    have He1 := Lib.hid e1
    clear e1
    have HM2 := Lib.hid hM2
    have Hmod := Lib.hid hmod
    have Hk1 := Lib.hid k1
    have Hk3 := Lib.hid k3
    clear hM2 hmod hO k1 k2 k3 k4
    go_region_held3 (fun w' => w'.cell? ⟨b, 0, none⟩ = some (.map (some r)) ∧ w'.cell? ⟨b, 1, none⟩ = some (i64 (last + 1)) ∧ w'.cell? ⟨w.heap.size, 2, none⟩ = some (.slice (some ⟨ob, oo, none⟩) xs.length oc) ∧ w'.cell? ⟨ob, oo + p, none⟩ = some (i64 xs[p])) (first | go_keep | (simp [*, go_sem]; done)) (fail)
    go_wp2_with fail
    go_ret2
    unfold OrderYes
    refine ⟨r, rfl, ⟨He1.out, fun e => (by cases e), ?_⟩, ?_, .inl rfl⟩
    · intro r' hr'
      cases hr'
      have hpk := putKey_new L ⟨last + 1, p, xs[p], dst⟩ Ho.out
      have hv : (Ent.val ⟨last + 1, p, xs[p], dst⟩) = .agg #[i64 (last + 1), i64 p, i64 xs[p], i64 dst] := rfl
      rw [hv] at hpk
      have hgd : xs.getD (p : Int).toNat 0 = xs[p] := by simp [hp]
      rw [hgd, ← hpk]
      exact HM2.out
    · have mw : Mod [b, r] W.drew w2 := Hmod.out.mono (by simp)
      exact (Hk3.out.mono (by simp)).drew.trans mw
  | none =>
    have hlk := run_look_nil (P := Tryz.prog) Tryz.underlying116 Tryz.underlying3 w1 p true (Tryz.zeroValue96 _)
    have HE := Lib.hid (E1.trans hE)
    clear ha hE E1 R
    have HH1 := Lib.hid h1
    clear h1
    go_wp2_with fail
    have w0 : w1.heap.size ≤ w1.heap.size := Nat.le_refl _
    have k1 := (((HH1.out.blk.set 0 (.map (some (w1.heap.size + 1)))).set 1 (.int .i64 (last + 1))).old (.cells #[.int .i64 0, .int .i64 0, .int .i64 0, .int .i64 0] 96)).old (.map #[] 0)
    have k2 := (((HB0.out.set_other ⟨b, 0, none⟩ (.map (some (w1.heap.size + 1))) (by simp; omega)).set_other ⟨b, 1, none⟩ (.int .i64 (last + 1)) (by simp; omega)).old (.cells #[.int .i64 0, .int .i64 0, .int .i64 0, .int .i64 0] 96)).old (.map #[] 0)
    have k3 : Mod [b] w ((((w1.setCell ⟨b, 0, none⟩ (.map (some (w1.heap.size + 1)))).setCell ⟨b, 1, none⟩ (.int .i64 (last + 1))).alloc (.cells #[.int .i64 0, .int .i64 0, .int .i64 0, .int .i64 0] 96)).alloc (.map #[] 0)) := by
      have M0 : Mod [b] w w1 := Mod.of_ext HE.out
      repeat (first | (with_reducible exact Mod.refl _ _) | (with_reducible assumption) | (with_reducible refine Mod.setCell ?_ (by simp) _) | (with_reducible refine Mod.alloc ?_ _) | (with_reducible refine Mod.drew ?_) | (with_reducible refine Mod.drewN ?_ _))
    have k4 : MapIs ((((w1.setCell ⟨b, 0, none⟩ (.map (some (w1.heap.size + 1)))).setCell ⟨b, 1, none⟩ (.int .i64 (last + 1))).alloc (.cells #[.int .i64 0, .int .i64 0, .int .i64 0, .int .i64 0] 96)).alloc (.map #[] 0)) (w1.heap.size + 1) [] := by
      have := MapIs.made (((w1.setCell ⟨b, 0, none⟩ (.map (some (w1.heap.size + 1)))).setCell ⟨b, 1, none⟩ (.int .i64 (last + 1))).alloc (.cells #[.int .i64 0, .int .i64 0, .int .i64 0, .int .i64 0] 96))
      simpa using this
    have hw1 : w.heap.size + 1 ≤ w1.heap.size := by have := HB0.out.lt; omega
    have hobl : ob < w.heap.size := World.block_lt_of_cell? w _ (hx.at0 hp)
    clear c1 f1 c0 f0 hc HH1 HB0 HE hb1 hlk
    generalize w1.heap.size = Q at *
    generalize ((((w1.setCell ⟨b, 0, none⟩ (.map (some (Q + 1)))).setCell ⟨b, 1, none⟩ (.int .i64 (last + 1))).alloc (.cells #[.int .i64 0, .int .i64 0, .int .i64 0, .int .i64 0] 96)).alloc (.map #[] 0)) = W at *
    have hL : L = [] := h.mnone rfl
    subst hL
    simp only [List.set_cons_succ, List.set_cons_zero] at k1
    have hcx := (hx.mod k3 (by simpa using hob)).at0 hp
    obtain ⟨c1, f1⟩ := k1.read
    obtain ⟨c2, f2⟩ := k2.read
    have hO : MapIs W.drew (Q + 1) [] := k4.same rfl
    obtain ⟨w2, hup, hM2, hmod, hsz⟩ := run_update (P := Tryz.prog) Tryz.underlying116 Tryz.underlying3 hO p (.agg #[i64 (last + 1), i64 p, i64 xs[p], i64 dst])
    have q1 : (0 : Int) ≤ (p : Int) := by omega
    have q2 : (p : Int) < (xs.length : Int) := by omega
    have nb : b ≠ Q + 1 := by omega
    have nt : w.heap.size ≠ Q + 1 := by omega
    have nx : ob ≠ Q + 1 := by omega
    have e1 := Blk.mod (w := W.drew) k1 hmod (by simpa using nb)
    obtain ⟨d1, g1⟩ := e1.read
    obtain ⟨d2, g2⟩ := (Blk.mod (w := W.drew) k2 hmod (by simpa using nt)).read
    have ix := hx.mod k3 (by simpa using hob)
    have dx := (IA.mod ix.drew hmod (by simpa using nx)).at0 hp
    have He1 := Lib.hid e1
    clear e1
    have HM2 := Lib.hid hM2
    have Hmod := Lib.hid hmod
    have Hk1 := Lib.hid k1
    have Hk3 := Lib.hid k3
    clear hM2 hmod hO k1 k2 k3 k4
    go_region_held3 (fun w' => w'.cell? ⟨b, 0, none⟩ = some (.map (some (Q + 1))) ∧ w'.cell? ⟨b, 1, none⟩ = some (i64 (last + 1)) ∧ w'.cell? ⟨w.heap.size, 2, none⟩ = some (.slice (some ⟨ob, oo, none⟩) xs.length oc) ∧ w'.cell? ⟨ob, oo + p, none⟩ = some (i64 xs[p])) (first | go_keep | (simp [*, go_sem]; done)) (fail)
    go_wp2_with fail
    go_ret2
    unfold OrderYes
    refine ⟨Q + 1, rfl, ⟨He1.out, fun e => (by cases e), ?_⟩, ?_, .inr ⟨rfl, by omega⟩⟩
    · intro r' hr'
      cases hr'
      have hpk := putKey_new [] ⟨last + 1, p, xs[p], dst⟩ Ho.out
      have hv : (Ent.val ⟨last + 1, p, xs[p], dst⟩) = .agg #[i64 (last + 1), i64 p, i64 xs[p], i64 dst] := rfl
      rw [hv] at hpk
      have hgd : xs.getD (p : Int).toNat 0 = xs[p] := by simp [hp]
      rw [hgd, ← hpk]
      exact HM2.out
    · have mw : Mod [Q + 1] W.drew w2 := Hmod.out
      exact Hk3.out.drew.step mw (by simp; omega)
end
end Go.Proofs.YtchmhkdnegngdaaGreat
