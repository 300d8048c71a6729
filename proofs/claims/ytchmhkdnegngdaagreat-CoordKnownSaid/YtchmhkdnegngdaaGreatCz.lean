/- coord: ready with another code. -/
import Derived.Test.YtchmhkdnegngdaaGreatCy
set_option linter.unusedVariables false
set_option linter.unusedSimpArgs false
namespace Go.Proofs.YtchmhkdnegngdaaGreat
open Go.RowKit


set_option maxRecDepth 100000 in
set_option maxHeartbeats 1600000 in
theorem ready_no (c : Nat) (F : List Nat) (s : St) (x : Mv) (code : Int) (w : World) (h : CR w c F s) (hx : x ∈ s.L) (hc : code ≠ 1) :
    Calls Tryz.prog 48 #[.pointer (some ⟨c, 0, none⟩), .agg #[i64 x.mv, i64 x.part, i64 x.fr, i64 x.dst], i64 code] w (CPost w c F { s with L := setAt x.mv 3 0 s.L } (.tuple #[])) := by
  obtain ⟨ob, oc, b, a, m, rfl, h⟩ := h
  obtain ⟨n1, n2, n3, n4, n5, n6, n7⟩ := mem_nodup h.nd
  have hlts := h.lt
  have hcb : (code == 1) = false := by simpa using hc
  have e1 : Ext w (w.alloc (.cells #[i64 x.mv, i64 x.part, i64 x.fr, i64 x.dst] 96)) := by (refine Mod.to_ext (S := []) ?_ (by simp); repeat (first | (with_reducible exact Mod.refl _ _) | (with_reducible assumption) | (with_reducible refine Mod.alloc ?_ _) | (with_reducible refine Mod.drew ?_) | (with_reducible refine Mod.drewN ?_ _)))
  have hCA := h.ext e1
  have hXB2 := Blk.new w [i64 x.mv, i64 x.part, i64 x.fr, i64 x.dst] 96
  have hMW : Mod [c] w (w.alloc (.cells #[i64 x.mv, i64 x.part, i64 x.fr, i64 x.dst] 96)) := Mod.of_ext e1
  clear h e1
  go_enter Tryz.func48, Tryz.ntmps48
  go_wp2_with fail
  revert hCA hXB2 hMW
  generalize hW : World.alloc w (.cells [i64 x.mv, i64 x.part, i64 x.fr, i64 x.dst].toArray 96) = W1
  clear hW
  intro hCA hXB2 hMW
  obtain ⟨w9, hup, hA9, hM9, hsz9⟩ := run_update (P := Tryz.prog) Tryz.underlying55 Tryz.underlying3 (show MapIs W1.drew a s.ats from hCA.ats.same rfl) x.mv (.agg #[i64 3, i64 0])
  have r4 := hCA.blk.read.1 4
  have r0 := hXB2.read.1 0
  have s4 := (Blk.mod (w := W1.drew) hCA.blk hM9 (by simpa using n2)).read.1 4
  have s0 := (Blk.mod (w := W1.drew) hXB2 hM9 (by have := hlts a (by simp); simp; omega)).read.1 0
  simp only [coordCells, List.getElem?_cons_succ, List.getElem?_cons_zero] at r4 r0 s4 s0
  have HA9 := Lib.hid hA9
  have HM9 := Lib.hid hM9
  have HCA := Lib.hid hCA
  have HMW := Lib.hid hMW
  clear hA9 hM9 hCA hXB2 hMW
  go_region_held3 (fun w' => w'.cell? ⟨c, 4, none⟩ = some (.map (some a)) ∧ w'.cell? ⟨w.heap.size, 0, none⟩ = some (i64 x.mv)) (first | assumption | (simp [*, go_sem]; done)) (fail)
  first | go_end0 | (go_wp2_with fail; first | go_end0 | refine bodyPost_ret (results_none rfl _ _ _) rfl ?_)
  have hm9 : Mod [a] W1 w9 := HM9.out.undrew'
  have hk := setAt_put (k := x.mv) (st := 3) (dn := 0) ⟨x, hx, rfl⟩
  have hA : MapIs w9 a ((setAt x.mv 3 0 s.L).map fun y => (y.mv, y.atv)) := by
    rw [← hk]; exact HA9.out
  refine ⟨rfl, c :: b :: a :: ob :: m.toList, ⟨ob, oc, b, a, m, rfl, HCA.out.ats_set hm9 hA (setAt_ent ..)⟩, ?_, fun _ hk => .inl hk⟩
  have M1 : Mod (c :: b :: a :: ob :: m.toList) w W1 := HMW.out.mono (by simp)
  exact M1.step hm9 (by simp)

end Go.Proofs.YtchmhkdnegngdaaGreat
