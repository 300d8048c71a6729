/- msg.numbers by a walker that writes. msg.numbers by a walker that reads. -/
import Derived.Test.YtchmhkdnegngdaaGreatGWk
import Derived.Test.YtchmhkdnegngdaaGreatGTb
import Derived.Deep.RegionLaw
import Derived.Deep.AppendLies
import Derived.Deep.DrawnRows
set_option linter.unusedVariables false
set_option linter.unusedSimpArgs false
namespace Go.Proofs.YtchmhkdnegngdaaGreat
open Go.RowKit

section
attribute [local go_sem ↓] Go.wp_at_zero Go.wp_at_succ

/-- what numbers leaves -/
def NumsPost (K : Wk) (mb : Nat) (w : World) (own : List Nat) (g' : List UInt8) (ys : List Int) (cells : Value → List Value) (e : Ending) (w' : World) : Prop :=
  e = .returned (.tuple #[]) ∧ ∃ own' v, K.St w' own' g' ∧ Blk w' mb (cells v) 40 ∧ w'.ownsRow w.heap.size 3 1 v ys.length (ys.map i64) ∧ (∀ q, v.ownBlock = some q → q ∉ own') ∧ Mod (mb :: own) w w' ∧ ∀ k ∈ own', k ∈ own ∨ w.heap.size ≤ k

theorem Mod.undrew {S : List Nat} {w w' : World} (h : Mod S w.drew w') : Mod S w w' := (Mod.refl _ w).drew.trans h

theorem Wk.st_ext (K : Wk) {w w' : World} {own : List Nat} {g : List UInt8} (h : K.St w own g) (m : Mod [] w w') : K.St w' own g := K.st_mod h m (by simp)

theorem take_get {ys : List Int} {i : Nat} (hi : i < ys.length) : (ys.take (i + 1)).map i64 = (ys.take i).map i64 ++ [i64 (ys.getD i 0)] := by
  rw [List.take_add_one, List.map_append]
  simp [hi]

set_option maxRecDepth 100000 in
set_option maxHeartbeats 800000 in
theorem numbers_w (K : Wk) (h167 : K.fnum = 167) (h165 : K.fcount = 165) (mb sb so sc : Nat) (k mv part dst ep n : Int) (s : Value) (xs ys : List Int) (w : World) (own : List Nat) (g : List UInt8) (gs : Nat → List UInt8)
    (hS : K.St w own g) (hb : Blk w mb (mcells k mv part dst ep n (.slice (some ⟨sb, so, none⟩) xs.length sc) s) 40) (hne : mb ∉ own) (hx : IA w sb so xs) (hsb : sb ∉ own) (hsm : sb ≠ mb) (h0 : 0 < xs.length) (hl : xs.length ≤ 64)
    (hy : ys.length = xs.length) (hc : K.Cnt g xs.length 64 (gs 0) xs.length) (hn : ∀ i, i < xs.length → K.Num (gs i) (xs.getD i 0) (gs (i + 1)) (ys.getD i 0)) :
    Calls Tryz.prog 95 #[.iface K.T (.pointer (some ⟨K.ob, 0, none⟩)), .pointer (some ⟨mb, 19, none⟩), i64 64] w (NumsPost K mb w own (gs xs.length) ys (fun v => mcells k mv part dst ep n v s)) := by
  obtain ⟨i0, hi, hz0, hz1, hz2⟩ := info_parts info3
  have hlt := hb.lt
  have R0 := K.count_calls (w := w.drew) (K.st_ext hS (Mod.refl [] w).drew) hc
  rw [h165] at R0
  have n1 := K.nilNum
  have m1 := K.metNum
  rw [h167] at m1
  have n2 := K.nilCount
  have m2 := K.metCount
  rw [h165] at m2
  obtain ⟨c0, f0⟩ := hb.read
  have c19 := c0 19
  simp only [mcells, List.getElem?_cons_succ, List.getElem?_cons_zero] at c19
  clear c0 f0
  go_enter Tryz.func95, Tryz.ntmps95
  go_wp2_with fail
  go_region_held3 (fun w' => w'.cell? ⟨mb, 19, none⟩ = some (.slice (some ⟨sb, so, none⟩) xs.length sc)) (first | assumption | (simp [*, go_sem]; done)) (with_reducible refine R0.mono ?_; intro e w1 q0; unfold Counted at q0; obtain ⟨rfl, own1, hS1, hM1, hO1⟩ := q0; have c19b : w1.cell? ⟨mb, 19, none⟩ = some (.slice (some ⟨sb, so, none⟩) xs.length sc) := ((World.cell?_of_block (hM1.undrew.block mb hlt hne)).trans c19))
  have hB1 := hb.mod hM1.undrew hne
  have hX1 := hx.mod hM1.undrew hsb
  have hsz1 := hM1.undrew.size
  obtain ⟨d1, f1⟩ := hB1.read
  have RC := clone_calls sb so sc xs w1 (by omega) hX1
  have HB1 := Lib.hid hB1
  have HO1 := Lib.hid hO1
  have HM1 := Lib.hid hM1.undrew
  clear R0 c19 c19b hB1 hX1 hO1 hM1 hS hb hx
  go_wp2_with fail
  refine RC.mono ?_
  rintro e w2 ⟨lv, rfl, hL, hE⟩
  have hB2 := HB1.out.ext hE
  obtain ⟨d2, f2⟩ := hB2.read
  have HB2 := Lib.hid hB2
  have hlt1 := HB1.out.lt
  obtain ⟨lg, lcap, rfl, hlb, hlg, hLI, _⟩ := ownsRow_IA hL h0
  have hsz2 := hE.size
  have HE := Lib.hid hE
  have HL := Lib.hid hL
  have HLI := Lib.hid hLI
  have HS1 := Lib.hid hS1
  clear RC d1 f1 hB2 hE hL hLI
  go_wp2_with fail
  go_loopw [27] (fun i wr => ∃ (j : Nat) (own' : List Nat) (v : Value), j ≤ xs.length ∧ i = i64 j ∧ K.St wr own' (gs j) ∧ Blk wr mb (mcells k mv part dst ep n v s) 40 ∧ wr.ownsRow (w2.heap.size) 3 1 v j ((ys.take j).map i64) ∧ (∀ q, v.ownBlock = some q → q ∉ own' ∧ q ≠ lg) ∧ IA wr lg 0 xs ∧ lg ∉ own' ∧ w2.heap.size ≤ wr.heap.size ∧ Mod (mb :: own) w wr ∧ ∀ k ∈ own', k ∈ own ∨ w.heap.size ≤ k) (fun i _ => xs.length - (intOf i).toNat)
  case atStart =>
    refine ⟨0, own1, .slice none 0 0, by omega, rfl, ?_, HB2.out.set 19 _, World.ownsRow_nil _ _ _ _, by simp [Value.ownBlock], ?_, ?_, by simp, ?_, HO1.out⟩
    · exact K.st_mod (S := [mb]) (K.st_ext HS1.out (Mod.of_ext HE.out)) (by repeat (first | (with_reducible exact Mod.refl _ _) | (with_reducible assumption) | (with_reducible refine Mod.setCell ?_ (by simp) _) | (with_reducible refine Mod.alloc ?_ _) | (with_reducible refine Mod.drew ?_) | (with_reducible refine Mod.drewN ?_ _))) (by simp; intro q hq e; subst e; rcases HO1.out q hq with h | h; exact hne h; simp at h; omega)
    · refine IA.mod (S := [mb]) HLI.out (by repeat (first | (with_reducible exact Mod.refl _ _) | (with_reducible assumption) | (with_reducible refine Mod.setCell ?_ (by simp) _) | (with_reducible refine Mod.alloc ?_ _) | (with_reducible refine Mod.drew ?_) | (with_reducible refine Mod.drewN ?_ _))) (by simp; omega)
    · intro hh; have := K.st_lt HS1.out lg hh; omega
    · have M0 : Mod (mb :: own) w w1 := HM1.out.mono (by intro x hx; simp [hx])
      have M1 : Mod (mb :: own) w w2 := M0.ext HE.out
      repeat (first | (with_reducible exact Mod.refl _ _) | (with_reducible assumption) | (with_reducible refine Mod.setCell ?_ (by simp) _) | (with_reducible refine Mod.alloc ?_ _) | (with_reducible refine Mod.drew ?_) | (with_reducible refine Mod.drewN ?_ _))
  case round =>
    obtain ⟨j, own', v, hj, rfl, hS, hB, ho, hv2, hI, hlo, hsz, hM, hO⟩ := hrel
    have hv : ∀ q, v.ownBlock = some q → q ∉ own' := fun q hq => (hv2 q hq).1
    have hLv := fun q hq => (hv2 q hq).2
    have hsz4 : w.heap.size ≤ wr.heap.size := by omega
    clear hv2
    by_cases hlt2 : j < xs.length
    · have hcx := hI.at0 hlt2
      rw [Nat.zero_add] at hcx
      have hlgn : ¬ lg = wr.heap.size := by omega
      have hlgl : lg < wr.heap.size := by omega
      obtain ⟨b0, f0⟩ := hB.read
      have hM3 : Mod [] wr (wr.alloc (.cells #[i64 xs[j]] 3)) := by repeat (first | (with_reducible exact Mod.refl _ _) | (with_reducible assumption) | (with_reducible refine Mod.setCell ?_ (by simp) _) | (with_reducible refine Mod.alloc ?_ _) | (with_reducible refine Mod.drew ?_) | (with_reducible refine Mod.drewN ?_ _))
      have hX : Blk (wr.alloc (.cells #[i64 xs[j]] 3)) wr.heap.size [i64 xs[j]] 3 := Blk.new wr [i64 xs[j]] 3
      have hnj := hn j hlt2
      have hgd : xs.getD j 0 = xs[j] := by simp [hlt2]
      rw [hgd] at hnj
      obtain ⟨yj, hyj⟩ : ∃ y, ys.getD j 0 = y := ⟨_, rfl⟩
      rw [hyj] at hnj
      have HYJ := Lib.hid hyj
      clear hyj
      have RN := K.num_calls (pj := 0) (K.st_ext hS hM3) hnj hX rfl (fun hh => by have := K.st_lt hS _ hh; omega)
      rw [h167] at RN
      have HM3 := Lib.hid hM3
      have HS := Lib.hid hS
      have HB := Lib.hid hB
      have HO := Lib.hid ho
      have HV := Lib.hid hv
      have HI := Lib.hid hI
      have HOO := Lib.hid hO
      have HM := Lib.hid hM
      clear hM3 hX hS hB ho hv hI hM hO hn hnj hgd
      go_wp2_with fail
      refine RN.mono ?_
      intro e w3 q0
      unfold Took at q0
      obtain ⟨rfl, own3, hS3, hX3, hM4, hO3⟩ := q0
      have hM5 : Mod (wr.heap.size :: own') wr w3 := (HM3.out.mono (by simp)).trans hM4
      have hmbo : mb ∉ own' := not_own hlt hne HOO.out
      have hmlt := HB.out.lt
      have hvlt : ∀ q, v.ownBlock = some q → q ∉ wr.heap.size :: own' := by
        intro q hq hh
        have := (HO.out.lt q hq).2
        rcases List.mem_cons.1 hh with e | hh
        · omega
        · exact HV.out q hq hh
      have hB3 := HB.out.mod hM5 (by intro hh; rcases List.mem_cons.1 hh with e | hh; omega; exact hmbo hh)
      have hr3 : w3.ownsRow (w2.heap.size) 3 1 v j ((ys.take j).map i64) := ownsRow_same HO.out (fun q hq => hM5.block q (HO.out.lt q hq).2 (hvlt q hq))
      have hI3 := HI.out.mod hM5 (by intro hh; rcases List.mem_cons.1 hh with e | hh; omega; exact hlo hh)
      have hsz3 := hM5.size
      have hX3lt := hX3.lt
      obtain ⟨x3, xf3⟩ := hX3.read
      obtain ⟨b3, bf3⟩ := hB3.read
      have b19 := b3 19
      simp only [mcells, List.getElem?_cons_succ, List.getElem?_cons_zero] at b19
      have x0 := x3 0
      simp only [List.set_cons_zero, List.getElem?_cons_zero] at x0
      have xn : ¬ mb = wr.heap.size := by omega
      have xn3 : ¬ mb = w3.heap.size := by omega
      have xw3 : ¬ wr.heap.size = w3.heap.size := by omega
      have xm3 : mb < w3.heap.size := by omega
      clear b3 x3
      have HB3 := Lib.hid hB3
      have HR3 := Lib.hid hr3
      have HI3 := Lib.hid hI3
      have HX3 := Lib.hid hX3
      have HS3 := Lib.hid hS3
      have HO3 := Lib.hid hO3
      have HM5 := Lib.hid hM5
      clear hB3 hr3 hI3 hX3 hS3 hO3 hM5 hM4 RN hcx b0 f0 hvlt
      go_wp2_with fail
      have hBB : ∀ (x y : World) (row : Option Nat), Blk x mb (mcells k mv part dst ep n v s) 40 → x.grownBy y row → v.ownBlock = row → Blk y mb (mcells k mv part dst ep n v s) 40 := fun x y row h hg e => h.grown hg (by rw [← e]; intro hh; have := (HO.out.lt _ hh.symm).1; omega)
      have HBB := Lib.hid hBB
      clear hBB
      go_region_law ((refine step_append_lies _ (by rfl) _ _ 26 (by rfl) (w2.heap.size) 3 i0 (.int .i64 0) 1 8 Tryz.underlying26 hi hz0 hz1 hz2 (by rfl) (by omega) v j _ (by rfl) (by exact (HR3.out.alloc _).drew) ⟨w3.heap.size, 0, none⟩ 1 1 [.int .i64 yj] (by rfl) (by rfl) (by intro j u hj; match j, hj with | 0, hj => (simp at hj; subst hj; simp [Addr.add])) (by intro u hu; simp at hu; subst hu; rfl) (by omega) (by unfold maxLen; omega) (by omega) (by simp; omega) _ rfl ?_; intro gg gcap w4 hown hgrow hat hltg; have B4 := HBB.out _ _ _ ((HB3.out.old _).drew) hgrow rfl; have c4 := B4.read.1 19; have f4 := B4.read.2 19; simp only [mcells, List.getElem?_cons_succ, List.getElem?_cons_zero] at c4))
      all_goals (go_wp2_with fail)
      all_goals
        go_roundw
        case rel =>
          have hg1 : w2.heap.size ≤ gg := (hown.lt gg rfl).1
          have B4g := (HBB.out _ _ _ ((HB3.out.old (.cells #[i64 yj] 3)).drew) hgrow rfl).set 19 (.slice (some ⟨gg, 0, none⟩) (j + 1) gcap)
          have hown2 := ownsRow_setCell_other hown (a := ⟨mb, 19, none⟩) (by intro hh; injection hh with hh; simp only at hh; omega) (.slice (some ⟨gg, 0, none⟩) (j + 1) gcap)
          have hOv : ∀ q, v.ownBlock = some q → w2.heap.size ≤ q ∧ q < wr.heap.size := fun q hq => HO.out.lt q hq
          have hown3 : ∀ k ∈ own3, k ∈ own ∨ w.heap.size ≤ k := own_step hsz4 HOO.out (own_step (Nat.le_refl _) (fun k hk => .inl hk) (fun k hk => (HO3.out k hk).imp id (fun h => by simp at h; omega)))
          have hgO : ∀ q, v.ownBlock = some q → q ∉ own3 := by
            intro q hq hh
            rcases HO3.out q hh with h | h
            · exact HV.out q hq h
            · have := (hOv q hq).2; simp at h; omega
          have hmb3 : mb ∉ own3 := not_own hlt hne hown3
          have hlo3 : lg ∉ own3 := by
            intro hh
            rcases HO3.out lg hh with h | h
            · exact hlo h
            · simp at h; omega
          have hgw : gg ≠ lg ∧ gg ∉ own3 := by
            rcases hat with h | h
            · exact ⟨hLv gg h, hgO gg h⟩
            · subst h
              refine ⟨?_, fun hh => ?_⟩
              · have := HI3.out.at (i := 0) h0; have := World.block_lt_of_cell? _ _ this; simp at this; intro e; omega
              · have := K.st_lt HS3.out _ hh; first | (simp at this; done) | (simp at this; omega)
          have M4 : Mod (mb :: v.ownBlock.toList) w3 (w4.setCell ⟨mb, 19, none⟩ (.slice (some ⟨gg, 0, none⟩) (j + 1) gcap)) :=
            Mod.setCell (Mod.grown (Mod.drew (Mod.alloc (Mod.refl _ w3) (.cells #[i64 yj] 3))) hgrow (by intro q hq; left; simp [hq])) (by simp) _
          have hS4 := K.st_mod HS3.out M4 (by intro k hk hh; rcases List.mem_cons.1 hh with e | hh; exact hmb3 (e ▸ hk); exact hgO k (by simpa using hh) hk)
          have MW : Mod (mb :: own) w w3 := HM.out.step HM5.out (by
            intro x hx
            rcases List.mem_cons.1 hx with e | hx
            · right; omega
            · rcases HOO.out x hx with h | h
              · left; simp [h]
              · right; exact h)
          refine ⟨j + 1, own3, .slice (some ⟨gg, 0, none⟩) (j + 1) gcap, by omega, by go_num, hS4, B4g, ?_, ?_, ?_, hlo3, ?_, ?_, hown3⟩
          · rw [take_get (by omega), HYJ.out]
            exact hown2
          · intro q hq; cases hq; exact ⟨hgw.2, hgw.1⟩
          · exact HI3.out.mod M4 (by intro hh; rcases List.mem_cons.1 hh with e | hh; omega; have := hLv lg (by simpa using hh); exact this rfl)
          · exact Nat.le_trans hsz (Nat.le_trans hsz3 M4.size)
          · refine MW.step M4 ?_
            intro x hx
            rcases List.mem_cons.1 hx with e | hx
            · left; simp [e]
            · right; have := (hOv x (by simpa using hx)).1; omega
        case measure => simp [intOf]; omega
    · have hje : j = xs.length := by omega
      subst hje
      go_wp2_with fail
      refine bodyPost_ret (results_none rfl _ _ _) rfl ?_
      refine ⟨rfl, own', v, hS, hB, ?_, hv, hM, hO⟩
      have e : (ys.take xs.length) = ys := by rw [← hy]; exact List.take_length
      rw [e] at ho
      rw [hy]
      exact ownsRow_base ho (by omega)
end

section
attribute [local go_sem ↓] Go.wp_at_zero Go.wp_at_succ

set_option maxRecDepth 100000 in
set_option maxHeartbeats 800000 in
theorem numbers_r (K : Wk) (h148 : K.fnum = 148) (h146 : K.fcount = 146) (mb : Nat) (k mv part dst ep n : Int) (s : Value) (ys : List Int) (w : World) (own : List Nat) (g : List UInt8) (gs : Nat → List UInt8)
    (hS : K.St w own g) (hb : Blk w mb (mcells k mv part dst ep n (.slice none 0 0) s) 40) (hne : mb ∉ own) (hl : ys.length ≤ 64)
    (hc : K.Cnt g 0 64 (gs 0) ys.length) (hn : ∀ i, i < ys.length → K.Num (gs i) 0 (gs (i + 1)) (ys.getD i 0)) :
    Calls Tryz.prog 95 #[.iface K.T (.pointer (some ⟨K.ob, 0, none⟩)), .pointer (some ⟨mb, 19, none⟩), i64 64] w (NumsPost K mb w own (gs ys.length) ys (fun v => mcells k mv part dst ep n v s)) := by
  obtain ⟨i0, hi, hz0, hz1, hz2⟩ := info_parts info3
  have hlt := hb.lt
  have R0 := K.count_calls (w := w.drew) (K.st_ext hS (Mod.refl [] w).drew) hc
  rw [h146] at R0
  have n1 := K.nilNum
  have m1 := K.metNum
  rw [h148] at m1
  have n2 := K.nilCount
  have m2 := K.metCount
  rw [h146] at m2
  obtain ⟨c0, f0⟩ := hb.read
  have c19 := c0 19
  simp only [mcells, List.getElem?_cons_succ, List.getElem?_cons_zero] at c19
  clear c0 f0
  go_enter Tryz.func95, Tryz.ntmps95
  go_wp2_with fail
  go_region_held3 (fun w' => w'.cell? ⟨mb, 19, none⟩ = some (.slice none 0 0)) (first | assumption | (simp [*, go_sem]; done)) (with_reducible refine R0.mono ?_; intro e w1 q0; unfold Counted at q0; obtain ⟨rfl, own1, hS1, hM1, hO1⟩ := q0; have c19b : w1.cell? ⟨mb, 19, none⟩ = some (.slice none 0 0) := ((World.cell?_of_block (hM1.undrew.block mb hlt hne)).trans c19))
  have hB1 := hb.mod hM1.undrew hne
  have hsz1 := hM1.undrew.size
  obtain ⟨d1, f1⟩ := hB1.read
  have HB1 := Lib.hid hB1
  have HO1 := Lib.hid hO1
  have HM1 := Lib.hid hM1.undrew
  clear R0 c19 c19b hB1 hO1 hM1 hS hb
  go_wp2_with fail
  refine (clone_nil w1).mono ?_
  rintro e w2 ⟨rfl, rfl⟩
  have hlt1 := HB1.out.lt
  have HS1 := Lib.hid hS1
  go_wp2_with fail
  go_loopw [27] (fun i wr => ∃ (j : Nat) (own' : List Nat) (v : Value), j ≤ ys.length ∧ i = i64 j ∧ K.St wr own' (gs j) ∧ Blk wr mb (mcells k mv part dst ep n v s) 40 ∧ wr.ownsRow (w1.heap.size) 3 1 v j ((ys.take j).map i64) ∧ (∀ q, v.ownBlock = some q → q ∉ own') ∧ w1.heap.size ≤ wr.heap.size ∧ Mod (mb :: own) w wr ∧ ∀ k ∈ own', k ∈ own ∨ w.heap.size ≤ k) (fun i _ => ys.length - (intOf i).toNat)
  case atStart =>
    refine ⟨0, own1, .slice none 0 0, by omega, rfl, ?_, HB1.out.set 19 _, World.ownsRow_nil _ _ _ _, by simp [Value.ownBlock], by simp, ?_, HO1.out⟩
    · exact K.st_mod (S := [mb]) HS1.out (by repeat (first | (with_reducible exact Mod.refl _ _) | (with_reducible assumption) | (with_reducible refine Mod.setCell ?_ (by simp) _) | (with_reducible refine Mod.alloc ?_ _) | (with_reducible refine Mod.drew ?_) | (with_reducible refine Mod.drewN ?_ _))) (by simp; intro q hq e; subst e; rcases HO1.out q hq with h | h; exact hne h; simp at h; omega)
    · have M0 : Mod (mb :: own) w w1 := HM1.out.mono (by intro x hx; simp [hx])
      repeat (first | (with_reducible exact Mod.refl _ _) | (with_reducible assumption) | (with_reducible refine Mod.setCell ?_ (by simp) _) | (with_reducible refine Mod.alloc ?_ _) | (with_reducible refine Mod.drew ?_) | (with_reducible refine Mod.drewN ?_ _))
  case round =>
    obtain ⟨j, own', v, hj, rfl, hS, hB, ho, hv, hsz, hM, hO⟩ := hrel
    have hsz4 : w.heap.size ≤ wr.heap.size := by omega
    by_cases hlt2 : j < ys.length
    · obtain ⟨b0, f0⟩ := hB.read
      have hM3 : Mod [] wr (wr.alloc (.cells #[i64 0] 3)) := by repeat (first | (with_reducible exact Mod.refl _ _) | (with_reducible assumption) | (with_reducible refine Mod.setCell ?_ (by simp) _) | (with_reducible refine Mod.alloc ?_ _) | (with_reducible refine Mod.drew ?_) | (with_reducible refine Mod.drewN ?_ _))
      have hX : Blk (wr.alloc (.cells #[i64 0] 3)) wr.heap.size [i64 0] 3 := Blk.new wr [i64 0] 3
      have hnj := hn j hlt2
      obtain ⟨yj, hyj⟩ : ∃ y, ys.getD j 0 = y := ⟨_, rfl⟩
      rw [hyj] at hnj
      have HYJ := Lib.hid hyj
      clear hyj
      have RN := K.num_calls (pj := 0) (K.st_ext hS hM3) hnj hX rfl (fun hh => by have := K.st_lt hS _ hh; omega)
      rw [h148] at RN
      have HM3 := Lib.hid hM3
      have HS := Lib.hid hS
      have HB := Lib.hid hB
      have HO := Lib.hid ho
      have HV := Lib.hid hv
      have HOO := Lib.hid hO
      have HM := Lib.hid hM
      clear hM3 hX hS hB ho hv hM hO hn hnj
      go_wp2_with fail
      refine RN.mono ?_
      intro e w3 q0
      unfold Took at q0
      obtain ⟨rfl, own3, hS3, hX3, hM4, hO3⟩ := q0
      have hM5 : Mod (wr.heap.size :: own') wr w3 := (HM3.out.mono (by simp)).trans hM4
      have hmbo : mb ∉ own' := not_own hlt hne HOO.out
      have hmlt := HB.out.lt
      have hvlt : ∀ q, v.ownBlock = some q → q ∉ wr.heap.size :: own' := by
        intro q hq hh
        have := (HO.out.lt q hq).2
        rcases List.mem_cons.1 hh with e | hh
        · omega
        · exact HV.out q hq hh
      have hB3 := HB.out.mod hM5 (by intro hh; rcases List.mem_cons.1 hh with e | hh; omega; exact hmbo hh)
      have hr3 : w3.ownsRow (w1.heap.size) 3 1 v j ((ys.take j).map i64) := ownsRow_same HO.out (fun q hq => hM5.block q (HO.out.lt q hq).2 (hvlt q hq))
      have hsz3 := hM5.size
      have hX3lt := hX3.lt
      obtain ⟨x3, xf3⟩ := hX3.read
      obtain ⟨b3, bf3⟩ := hB3.read
      have b19 := b3 19
      simp only [mcells, List.getElem?_cons_succ, List.getElem?_cons_zero] at b19
      have x0 := x3 0
      simp only [List.set_cons_zero, List.getElem?_cons_zero] at x0
      have xn : ¬ mb = wr.heap.size := by omega
      have xn3 : ¬ mb = w3.heap.size := by omega
      have xw3 : ¬ wr.heap.size = w3.heap.size := by omega
      have xm3 : mb < w3.heap.size := by omega
      clear b3 x3
      have HB3 := Lib.hid hB3
      have HR3 := Lib.hid hr3
      have HX3 := Lib.hid hX3
      have HS3 := Lib.hid hS3
      have HO3 := Lib.hid hO3
      have HM5 := Lib.hid hM5
      clear hB3 hr3 hX3 hS3 hO3 hM5 hM4 RN b0 f0 hvlt
      go_wp2_with fail
      have hBB : ∀ (x y : World) (row : Option Nat), Blk x mb (mcells k mv part dst ep n v s) 40 → x.grownBy y row → v.ownBlock = row → Blk y mb (mcells k mv part dst ep n v s) 40 := fun x y row h hg e => h.grown hg (by rw [← e]; intro hh; have := (HO.out.lt _ hh.symm).1; omega)
      have HBB := Lib.hid hBB
      clear hBB
      go_region_law ((refine step_append_lies _ (by rfl) _ _ 26 (by rfl) (w1.heap.size) 3 i0 (.int .i64 0) 1 8 Tryz.underlying26 hi hz0 hz1 hz2 (by rfl) (by omega) v j _ (by rfl) (by exact (HR3.out.alloc _).drew) ⟨w3.heap.size, 0, none⟩ 1 1 [.int .i64 yj] (by rfl) (by rfl) (by intro j u hj; match j, hj with | 0, hj => (simp at hj; subst hj; simp [Addr.add])) (by intro u hu; simp at hu; subst hu; rfl) (by omega) (by unfold maxLen; omega) (by omega) (by simp; omega) _ rfl ?_; intro gg gcap w4 hown hgrow hat hltg; have B4 := HBB.out _ _ _ ((HB3.out.old _).drew) hgrow rfl; have c4 := B4.read.1 19; have f4 := B4.read.2 19; simp only [mcells, List.getElem?_cons_succ, List.getElem?_cons_zero] at c4))
      all_goals (go_wp2_with fail)
      all_goals
        go_roundw
        case rel =>
          have hg1 : w1.heap.size ≤ gg := (hown.lt gg rfl).1
          have B4g := (HBB.out _ _ _ ((HB3.out.old (.cells #[i64 yj] 3)).drew) hgrow rfl).set 19 (.slice (some ⟨gg, 0, none⟩) (j + 1) gcap)
          have hown2 := ownsRow_setCell_other hown (a := ⟨mb, 19, none⟩) (by intro hh; injection hh with hh; simp only at hh; omega) (.slice (some ⟨gg, 0, none⟩) (j + 1) gcap)
          have hOv : ∀ q, v.ownBlock = some q → w1.heap.size ≤ q ∧ q < wr.heap.size := fun q hq => HO.out.lt q hq
          have hown3 : ∀ k ∈ own3, k ∈ own ∨ w.heap.size ≤ k := own_step hsz4 HOO.out (own_step (Nat.le_refl _) (fun k hk => .inl hk) (fun k hk => (HO3.out k hk).imp id (fun h => by simp at h; omega)))
          have hgO : ∀ q, v.ownBlock = some q → q ∉ own3 := by
            intro q hq hh
            rcases HO3.out q hh with h | h
            · exact HV.out q hq h
            · have := (hOv q hq).2; simp at h; omega
          have hmb3 : mb ∉ own3 := not_own hlt hne hown3
          have hgw : gg ∉ own3 := by
            rcases hat with h | h
            · exact hgO gg h
            · subst h
              intro hh
              have := K.st_lt HS3.out _ hh; first | (simp at this; done) | (simp at this; omega)
          have M4 : Mod (mb :: v.ownBlock.toList) w3 (w4.setCell ⟨mb, 19, none⟩ (.slice (some ⟨gg, 0, none⟩) (j + 1) gcap)) :=
            Mod.setCell (Mod.grown (Mod.drew (Mod.alloc (Mod.refl _ w3) (.cells #[i64 yj] 3))) hgrow (by intro q hq; left; simp [hq])) (by simp) _
          have hS4 := K.st_mod HS3.out M4 (by intro k hk hh; rcases List.mem_cons.1 hh with e | hh; exact hmb3 (e ▸ hk); exact hgO k (by simpa using hh) hk)
          have MW : Mod (mb :: own) w w3 := HM.out.step HM5.out (by
            intro x hx
            rcases List.mem_cons.1 hx with e | hx
            · right; omega
            · rcases HOO.out x hx with h | h
              · left; simp [h]
              · right; exact h)
          refine ⟨j + 1, own3, .slice (some ⟨gg, 0, none⟩) (j + 1) gcap, by omega, by go_num, hS4, B4g, ?_, ?_, ?_, ?_, hown3⟩
          · rw [take_get (by omega), HYJ.out]
            exact hown2
          · intro q hq; cases hq; exact hgw
          · exact Nat.le_trans hsz (Nat.le_trans hsz3 M4.size)
          · refine MW.step M4 ?_
            intro x hx
            rcases List.mem_cons.1 hx with e | hx
            · left; simp [e]
            · right; have := (hOv x (by simpa using hx)).1; omega
        case measure => simp [intOf]; omega
    · have hje : j = ys.length := by omega
      subst hje
      go_wp2_with fail
      refine bodyPost_ret (results_none rfl _ _ _) rfl ?_
      refine ⟨rfl, own', v, hS, hB, ?_, hv, hM, hO⟩
      have e : (ys.take ys.length) = ys := List.take_length
      rw [e] at ho
      exact ownsRow_base ho (by omega)
end
end Go.Proofs.YtchmhkdnegngdaaGreat
