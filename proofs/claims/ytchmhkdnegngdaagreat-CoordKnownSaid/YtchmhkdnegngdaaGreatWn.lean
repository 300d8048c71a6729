/- Out.Num, Out.Byte, Out.String; the writer's methods. -/
import Derived.Deep.DrawnRows
import Derived.Test.YtchmhkdnegngdaaGreatWv
set_option linter.unusedVariables false
set_option linter.unusedSimpArgs false
namespace Go.Proofs.YtchmhkdnegngdaaGreat
open Go.RowKit


theorem Row.slice {w : World} {v : Value} {bs : List UInt8} (h : Row w v bs) : ∃ a n c, v = .slice a n c := by
  rcases h.2 with ⟨e, h0⟩ | ⟨g, cap, cur, e, _⟩
  · exact ⟨_, _, _, e⟩
  · exact ⟨_, _, _, e⟩

/-- a writer in memory -/
structure WIs (w : World) (ob : Nat) (t : TypeId) (v : Value) (bs : List UInt8) : Prop where
  blk : Blk w ob [v] t
  row : Row w v bs
  ne : ∀ g, v.ownBlock = some g → g ≠ ob

/-- how a writer goes on -/
def WStep (ob : Nat) (w : World) (v v' : Value) (w' : World) : Prop :=
  Mod (ob :: v.ownBlock.toList) w w' ∧ (v'.ownBlock = v.ownBlock ∨ ∃ k, v'.ownBlock = some k ∧ w.heap.size ≤ k)

theorem WStep.mod {ob : Nat} {w w' : World} {v v' : Value} (h : WStep ob w v v' w') : Mod (ob :: v.ownBlock.toList) w w' := h.1
theorem WStep.cell {ob : Nat} {w w' : World} {v v' u : Value} {pb pj : Nat} (h : WStep ob w v v' w') (hc : w.cell? ⟨pb, pj, none⟩ = some u) (hne : pb ≠ ob) (hnv : v.ownBlock ≠ some pb) :
    w'.cell? ⟨pb, pj, none⟩ = some u :=
  (World.cell?_of_block (h.1.block pb (World.block_lt_of_cell? w _ hc) (by simp; exact ⟨hne, fun e => hnv e⟩))).trans hc

theorem WStep.refl (ob : Nat) (w : World) (v : Value) : WStep ob w v v w := ⟨Mod.refl _ _, .inl rfl⟩

theorem WStep.trans {ob : Nat} {a b c : World} {v v' v'' : Value} (h : WStep ob a v v' b) (k : WStep ob b v' v'' c) : WStep ob a v v'' c := by
  refine ⟨h.1.step k.1 ?_, ?_⟩
  · intro x hx
    rcases List.mem_cons.1 hx with e | hx
    · left; simp [e]
    rcases h.2 with e | ⟨q, e, hq⟩
    · left; rw [← e]; exact List.mem_cons_of_mem _ hx
    · right; rw [e] at hx; simp at hx; omega
  · rcases k.2 with e | ⟨q, e, hq⟩
    · rw [e]; exact h.2
    · exact .inr ⟨q, e, Nat.le_trans h.1.size hq⟩

theorem WStep.ext {ob : Nat} {a b c : World} {v v' : Value} (h : WStep ob a v v' b) (o : Ext b c) : WStep ob a v v' c := ⟨h.1.ext o, h.2⟩
theorem WStep.pre {ob : Nat} {a b c : World} {v v' : Value} (o : Ext a b) (h : WStep ob b v v' c) : WStep ob a v v' c :=
  ⟨(Mod.of_ext o).trans h.1, h.2.imp id fun ⟨k, e, hk⟩ => ⟨k, e, Nat.le_trans o.size hk⟩⟩

theorem WIs.mod {S : List Nat} {w w' : World} {ob : Nat} {t : TypeId} {v : Value} {bs : List UInt8} (h : WIs w ob t v bs) (m : Mod S w w') (h1 : ob ∉ S) (h2 : ∀ g, v.ownBlock = some g → g ∉ S) : WIs w' ob t v bs :=
  ⟨h.blk.mod m h1, h.row.mod m h2, h.ne⟩
theorem WIs.ext {w w' : World} {ob : Nat} {t : TypeId} {v : Value} {bs : List UInt8} (h : WIs w ob t v bs) (m : Ext w w') : WIs w' ob t v bs :=
  h.mod (S := []) (Mod.of_ext m) (by simp) (by simp)

theorem WIs.drew {w : World} {ob : Nat} {t : TypeId} {v : Value} {bs : List UInt8} (h : WIs w ob t v bs) : WIs w.drew ob t v bs := ⟨h.blk, h.row, h.ne⟩
theorem WStep.undrew {ob : Nat} {w w' : World} {v v' : Value} (h : WStep ob w.drew v v' w') : WStep ob w v v' w' := ⟨(Mod.refl _ w).drew.trans h.1, h.2⟩

/-- bs are written now -/
def Wrote (ob : Nat) (t : TypeId) (v : Value) (w : World) (bs : List UInt8) (e : Ending) (w' : World) : Prop :=
  e = .returned (.tuple #[]) ∧ ∃ v', WIs w' ob t v' bs ∧ WStep ob w v v' w'

theorem num_calls (ob : Nat) (t : TypeId) (v : Value) (bs : List UInt8) (x : Nat) (w : World) (h : WIs w ob t v bs) (hx : x < 18446744073709551616) (hl : bs.length ≤ 100000) :
    Calls Tryz.prog 171 #[.pointer (some ⟨ob, 0, none⟩), u64 x] w (Wrote ob t v w (bs ++ vb x)) := by
  have R := putVar_calls v bs x w h.row hx hl
  obtain ⟨c0, f0⟩ := h.blk.read
  have hlt := h.blk.lt
  go_enter Tryz.func171, Tryz.ntmps171
  go_wp2_with fail
  refine R.mono ?_
  rintro e w1 ⟨v', rfl, hR, hS⟩
  obtain ⟨sa, sn, sc, rfl⟩ := hR.slice
  have b1 := h.blk.mod hS.1 (fun e => h.ne ob (by simpa using e) rfl)
  obtain ⟨c1, f1⟩ := b1.read
  have HB := Lib.hid b1
  have HR := Lib.hid hR
  have HS := Lib.hid hS
  clear b1 hR hS R
  go_wp2_with fail
  refine bodyPost_ret (results_none rfl _ _ _) rfl ?_
  have hn : ∀ g, (Value.slice sa sn sc).ownBlock = some g → g ≠ ob := by
    intro g hg
    rcases HS.out.2 with e | ⟨k, e, hk⟩
    · exact h.ne g (by rw [← e]; exact hg)
    · rw [e] at hg; cases hg; omega
  refine ⟨rfl, _, ⟨HB.out.set 0 _, HR.out.setCell _ _ hn, hn⟩, ?_, HS.out.2⟩
  have m1 : Mod (ob :: v.ownBlock.toList) w w1 := HS.out.1.mono (by intro x hx; simp [hx])
  exact m1.setCell (by simp) _

set_option maxRecDepth 100000 in
theorem byte_calls (ob : Nat) (t : TypeId) (v : Value) (bs : List UInt8) (x : Nat) (w : World) (h : WIs w ob t v bs) (hx : x < 256) (hl : bs.length ≤ 100000) :
    Calls Tryz.prog 170 #[.pointer (some ⟨ob, 0, none⟩), u8 x] w (Wrote ob t v w (bs ++ [UInt8.ofNat x])) := by
  obtain ⟨i0, hi, hz0, hz1, hz2⟩ := info_parts info5
  obtain ⟨c0, f0⟩ := h.blk.read
  have hlt := h.blk.lt
  have HH := Lib.hid h
  clear h
  go_enter Tryz.func170, Tryz.ntmps170
  go_wp2_with (at_builtin; refine wpList_append_own_at _ rfl _ _ 144 rfl 0 5 i0 (.int .u8 0) 1 1 Tryz.underlying144 hi hz0 hz1 hz2 rfl (by decide) v bs.length _ rfl ((HH.out.row).alloc _) ⟨w.heap.size, 0, none⟩ 1 1 (Lib.byteCells [UInt8.ofNat x]) rfl rfl (news_byte (by omega) rfl (Blk.at _ _ _ _ rfl)) (byte_one _) (by unfold maxLen; omega) (by omega) (Nat.zero_le _) ?_; intro v' w1 ho hg hn hb; have hr : Row w1 v' (bs ++ [UInt8.ofNat x]) := (by unfold Row; rw [List.length_append]; simpa [Lib.byteCells] using ho); obtain ⟨sa, sn, sc, rfl⟩ := hr.slice; have hS := Lib.hid (Step.grown (a := w) (by (refine Mod.to_ext (S := []) ?_ (by simp); repeat (first | (with_reducible exact Mod.refl _ _) | (with_reducible assumption) | (with_reducible refine Mod.alloc ?_ _) | (with_reducible refine Mod.drew ?_) | (with_reducible refine Mod.drewN ?_ _)))) hg hb); have b1 := HH.out.blk.mod hS.out.1 (fun e => HH.out.ne ob (by simpa using e) rfl); have HB := Lib.hid b1; obtain ⟨c1, f1⟩ := b1.read; have HO := Lib.hid hr; clear ho hg hn hb b1 hr)
  refine bodyPost_ret (results_none rfl _ _ _) rfl ?_
  have hn : ∀ g, (Value.slice sa sn sc).ownBlock = some g → g ≠ ob := by
    intro g hg
    rcases hS.out.2 with e | ⟨k, e, hk⟩
    · exact HH.out.ne g (by rw [← e]; exact hg)
    · rw [e] at hg; cases hg; omega
  refine ⟨rfl, _, ⟨HB.out.set 0 _, HO.out.setCell _ _ hn, hn⟩, ?_, hS.out.2⟩
  have m1 : Mod (ob :: v.ownBlock.toList) w w1 := hS.out.1.mono (by intro x hx; simp [hx])
  exact m1.setCell (by simp) _

end Go.Proofs.YtchmhkdnegngdaaGreat
