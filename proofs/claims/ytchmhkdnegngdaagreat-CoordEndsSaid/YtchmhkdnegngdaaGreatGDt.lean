/- msg.Data. -/
import Derived.Test.YtchmhkdnegngdaaGreatGRd
import Derived.Test.YtchmhkdnegngdaaGreatGCr
set_option linter.unusedVariables false
set_option linter.unusedSimpArgs false
namespace Go.Proofs.YtchmhkdnegngdaaGreat
open Go.RowKit

section
/-- a message's text on the net -/
def dataS (m : Ms) : ByteArray := ⟨(frameL m.enc).toArray⟩

set_option maxRecDepth 100000 in
set_option maxHeartbeats 800000 in
theorem Data_calls (m : Ms) (o : Value) (w : World) (hm : m.ok) (h : Sl w o (ints m.owners)) :
    Calls Tryz.prog 64 #[.agg (m.cells o).toArray] w (fun e w' => e = .returned (.tuple #[.string (dataS m), i64 0]) ∧ Ext w w') := by
  have hcs := cells_ok m o h.one
  obtain ⟨C, hC⟩ : ∃ C, C = (m.cells o).toArray := ⟨_, rfl⟩
  have e1 : Ext w (w.alloc (.cells C 40)) := by (refine Mod.to_ext (S := []) ?_ (by simp); repeat (first | (with_reducible exact Mod.refl _ _) | (with_reducible assumption) | (with_reducible refine Mod.alloc ?_ _) | (with_reducible refine Mod.drew ?_) | (with_reducible refine Mod.drewN ?_ _)))
  have R := Bytes_calls m o _ hm (h.ext e1)
  rw [← hC] at hcs R ⊢
  have hi : (Tryz.prog.info? 40).map (·.size) = some C.size := by rw [hcs.1]; kernel_rfl
  have HI := Lib.hid hi
  have F1 := Lib.hid (heap_alloc_new w (.cells C 40))
  have HE1 := Lib.hid e1
  clear hC hcs hi e1
  go_enter Tryz.func64, Tryz.ntmps64
  go_wp2_with (first | (refine wpList_load_row rfl 40 (.tmp 1) rfl w.heap.size rfl 40 C (0, 0) _ F1.out Tryz.underlying40 rfl HI.out ?_))
  refine R.mono ?_
  intro e w2 q0
  unfold BytesPost at q0
  obtain ⟨rfl, hE2⟩ := q0
  have HE2 := Lib.hid hE2
  clear hE2 R
  go_wp2_with fail
  refine (Put_calls ⟨m.enc.toArray⟩ m.enc w2 rfl (by have := enc_len m hm; omega)).mono ?_
  rintro e w3 ⟨rfl, hE3⟩
  have HE3 := Lib.hid hE3
  clear hE3
  go_wp2_with fail
  go_ret2
  exact ⟨rfl, (HE1.out.trans HE2.out).trans HE3.out⟩
end
end Go.Proofs.YtchmhkdnegngdaaGreat
