/- msg.safely around what does not give up; Bytes$1, Read$1. -/
import Derived.Test.YtchmhkdnegngdaaGreatGRb
import Derived.Recover
import Derived.Defers
set_option linter.unusedVariables false
set_option linter.unusedSimpArgs false
namespace Go.Proofs.YtchmhkdnegngdaaGreat
open Go.RowKit

section
theorem catch_idle (p : Value) (w : World) :
    CallsD Tryz.prog 92 #[p] .returning w fun e u' w' => e = .returned (.tuple #[]) ∧ u' = .returning ∧ w' = w := by
  refine callsD_of_wpS Tryz.func92 rfl fun c₀ cs hu => ?_
  apply wpS_seq
  apply wpS_region
  simp [wpOpsS, go_sem, recoverD, hu, Tryz.ntmps92, Exit.thenS]
  apply wpS_seq
  apply wpS_region
  simp [wpOpsS, go_sem, recoverD, hu, Exit.thenS]
  refine wpS_cond (t := false) (by simp [Act.eval, Array.replicate]) ?_
  simp only [Bool.false_eq_true, if_false]
  refine wpS_of_wp (wp_skip ?_)
  cases c₀
  simp_all [bodyPostS, results, Tryz.results92]

theorem wclosure (ob mb : Nat) (w : World) (Q : World → Prop)
    (R : Calls Tryz.prog 73 #[.iface 193 (.pointer (some ⟨ob, 0, none⟩)), .pointer (some ⟨mb, 0, none⟩)] w (fun e w' => e = .returned (.tuple #[]) ∧ Q w')) :
    Calls Tryz.prog 108 #[.pointer (some ⟨ob, 0, none⟩), .pointer (some ⟨mb, 0, none⟩)] w (fun e w' => e = .returned (.tuple #[]) ∧ Q w') := by
  go_enter Tryz.func108, Tryz.ntmps108
  go_wp2_with fail
  refine R.mono ?_
  rintro e w1 ⟨rfl, hq⟩
  have HQ := Lib.hid hq
  clear hq R
  go_wp2_with fail
  first | go_end0 | refine bodyPost_ret (results_none rfl _ _ _) rfl ?_
  exact ⟨rfl, HQ.out⟩

theorem rclosure (vb rb mb : Nat) (w : World) (Q : World → Prop) (h : w.cell? ⟨vb, 0, none⟩ = some (.pointer (some ⟨rb, 0, none⟩)))
    (R : Calls Tryz.prog 73 #[.iface 130 (.pointer (some ⟨rb, 0, none⟩)), .pointer (some ⟨mb, 0, none⟩)] w (fun e w' => e = .returned (.tuple #[]) ∧ Q w')) :
    Calls Tryz.prog 72 #[.pointer (some ⟨vb, 0, none⟩), .pointer (some ⟨mb, 0, none⟩)] w (fun e w' => e = .returned (.tuple #[]) ∧ Q w') := by
  go_enter Tryz.func72, Tryz.ntmps72
  go_wp2_with fail
  refine R.mono ?_
  rintro e w1 ⟨rfl, hq⟩
  have HQ := Lib.hid hq
  clear hq R
  go_wp2_with fail
  first | go_end0 | refine bodyPost_ret (results_none rfl _ _ _) rfl ?_
  exact ⟨rfl, HQ.out⟩

theorem safely_w (a b : Value) (w : World) (Q : World → Prop)
    (R : Calls Tryz.prog 108 #[a, b] (w.alloc (.cells #[i64 0] 23)) (fun e w' => e = .returned (.tuple #[]) ∧ Q w')) (hQ : ∀ w', Q w' → Blk w' w.heap.size [i64 0] 23) :
    Calls Tryz.prog 71 #[.func (.func 108) #[] #[a, b]] w (fun e w' => e = .returned (i64 0) ∧ ∃ w1, Q w1 ∧ w' = w1.setCell ⟨w.heap.size, 0, none⟩ (i64 0)) := by
  have hmf : ∀ (fn : Fn) (first cap : Array Value) (w : World), (Instr.makeFunc fn first cap).run Tryz.prog w = .ok (.func fn first cap) w := fun _ _ _ _ => rfl
  go_enter_defers Tryz.func71, Tryz.ntmps71
  go_wp2_with fail
  refine R.mono ?_
  rintro e w1 ⟨rfl, hq⟩
  obtain ⟨c1, f1⟩ := (hQ w1 hq).read
  have HQ := Lib.hid hq
  clear hq R hQ
  go_wp2_with fail
  refine leaves_cons (f := 92) (args := #[.pointer (some ⟨w.heap.size, 0, none⟩)]) (by simp) (by simp [go_sem]) ?_
  refine (catch_idle _ _).mono ?_
  rintro e u' w'' ⟨rfl, rfl, rfl⟩
  simp [Leaves, settle, results, Tryz.results71, go_sem, c1]
  exact ⟨_, HQ.out, rfl⟩

theorem safely_r (a b : Value) (w : World) (Q : World → Prop)
    (R : Calls Tryz.prog 72 #[a, b] (w.alloc (.cells #[i64 0] 23)) (fun e w' => e = .returned (.tuple #[]) ∧ Q w')) (hQ : ∀ w', Q w' → Blk w' w.heap.size [i64 0] 23) :
    Calls Tryz.prog 71 #[.func (.func 72) #[] #[a, b]] w (fun e w' => e = .returned (i64 0) ∧ ∃ w1, Q w1 ∧ w' = w1.setCell ⟨w.heap.size, 0, none⟩ (i64 0)) := by
  have hmf : ∀ (fn : Fn) (first cap : Array Value) (w : World), (Instr.makeFunc fn first cap).run Tryz.prog w = .ok (.func fn first cap) w := fun _ _ _ _ => rfl
  go_enter_defers Tryz.func71, Tryz.ntmps71
  go_wp2_with fail
  refine R.mono ?_
  rintro e w1 ⟨rfl, hq⟩
  obtain ⟨c1, f1⟩ := (hQ w1 hq).read
  have HQ := Lib.hid hq
  clear hq R hQ
  go_wp2_with fail
  refine leaves_cons (f := 92) (args := #[.pointer (some ⟨w.heap.size, 0, none⟩)]) (by simp) (by simp [go_sem]) ?_
  refine (catch_idle _ _).mono ?_
  rintro e u' w'' ⟨rfl, rfl, rfl⟩
  simp [Leaves, settle, results, Tryz.results71, go_sem, c1]
  exact ⟨_, HQ.out, rfl⟩
end
end Go.Proofs.YtchmhkdnegngdaaGreat
