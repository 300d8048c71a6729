/- The writer as a walker. -/
import Derived.Test.YtchmhkdnegngdaaGreatGWc
import Derived.Test.YtchmhkdnegngdaaGreatGWp
set_option linter.unusedVariables false
set_option linter.unusedSimpArgs false
namespace Go.Proofs.YtchmhkdnegngdaaGreat
open Go.RowKit

section
set_option maxRecDepth 100000 in
theorem wbyte_calls (ob : Nat) (t : TypeId) (v : Value) (bs : List UInt8) (x : Nat) (pb pj : Nat) (w : World) (h : WIs w ob t v bs) (hx : x < 256) (hl : bs.length ≤ 100000)
    (hc : w.cell? ⟨pb, pj, none⟩ = some (u8 x)) (hne : pb ≠ ob) (hnv : v.ownBlock ≠ some pb) :
    Calls Tryz.prog 164 #[.pointer (some ⟨ob, 0, none⟩), .pointer (some ⟨pb, pj, none⟩)] w (Wrote ob t v w (bs ++ [UInt8.ofNat x])) := by
  have HH := Lib.hid h
  obtain ⟨c0, f0⟩ := h.blk.read
  have hlt := h.blk.lt
  clear h
  go_enter Tryz.func164, Tryz.ntmps164
  go_wp2_with fail
  go_region_held3 (fun w' => w'.cell? ⟨pb, pj, none⟩ = some (u8 x)) (first | assumption | go_keep | (simp [*, go_sem]; done)) (with_reducible refine (byte_calls ob t v bs x _ HH.out.drew (by omega) hl).mono ?_; intro e w' h0; unfold Wrote at h0; obtain ⟨rfl, v', hW, hS⟩ := h0; have hcc := hS.undrew.cell hc hne hnv)
  refine bodyPost_ret (results_none rfl _ _ _) rfl ?_
  exact ⟨rfl, v', hW, hS.undrew⟩

/-- n is written now, and given back -/
def WroteN (ob : Nat) (t : TypeId) (v : Value) (w : World) (bs : List UInt8) (n : Int) (e : Ending) (w' : World) : Prop :=
  e = .returned (i64 n) ∧ ∃ v', WIs w' ob t v' bs ∧ WStep ob w v v' w'

set_option maxRecDepth 100000 in
theorem wcount_calls (ob : Nat) (t : TypeId) (v : Value) (bs : List UInt8) (x : Nat) (most : Int) (w : World) (h : WIs w ob t v bs) (hx : (x : Int) ≤ most) (hx2 : x ≤ 2147483647) (hl : bs.length ≤ 100000) :
    Calls Tryz.prog 165 #[.pointer (some ⟨ob, 0, none⟩), i64 x, i64 most] w (WroteN ob t v w (bs ++ vb x) x) := by
  have HH := Lib.hid h
  obtain ⟨c0, f0⟩ := h.blk.read
  have hlt := h.blk.lt
  clear h
  go_enter Tryz.func165, Tryz.ntmps165
  go_wp2_with fail
  go_region_held3 (fun _ => True) (exact True.intro) (first | (with_reducible refine (held_calls x _ _ (by omega) (by omega)).mono ?_; rintro e w' ⟨rfl, rfl⟩) | (with_reducible refine (num_calls ob t v bs x _ HH.out.drew (by omega) hl).mono ?_; intro e w' h0; unfold Wrote at h0; obtain ⟨rfl, v', hW, hS⟩ := h0))
  go_wp2_with fail
  go_ret
  exact ⟨rfl, v', hW, hS.undrew⟩

theorem string_calls (ob : Nat) (t : TypeId) (v : Value) (bs : List UInt8) (w : World) (h : WIs w ob t v bs) (h0 : bs ≠ []) :
    Calls Tryz.prog 109 #[.pointer (some ⟨ob, 0, none⟩)] w (fun e w' => e = .returned (.string ⟨bs.toArray⟩) ∧ w = w') := by
  obtain ⟨c0, f0⟩ := h.blk.read
  obtain ⟨hl, hv⟩ := h.row
  have hpos : 0 < bs.length := List.length_pos_iff.2 h0
  obtain ⟨g, cap, cur, rfl, hb, hg, hn, hc, hs, ht⟩ : ∃ g cap cur, v = .slice (some ⟨g, 0, none⟩) bs.length cap ∧ 0 ≤ g ∧ w.heap[g]? = some (.cells cur 5 (0, 0)) ∧ bs.length ≤ cap ∧ cap ≤ maxLen ∧ cur.size = cap * 1 ∧ cur.toList.take (bs.length * 1) = Lib.byteCells bs := by
    rcases hv with ⟨_, h1⟩ | hv
    · omega
    · exact hv
  have hcv := run_convert_bytes_back (P := Tryz.prog) w 144 9 5 ⟨g, 0, none⟩ cap bs Tryz.underlying144 Tryz.underlying5 Tryz.underlying9 (by
    intro j hj
    rw [addr_add, Nat.zero_add]
    have : (cur.toList.take (bs.length * 1))[j]? = (Lib.byteCells bs)[j]? := by rw [ht]
    rw [List.getElem?_take, if_pos (by omega)] at this
    simp only [World.cell?, hg]
    simp only [Option.isSome_none, Bool.false_eq_true, if_false]
    rw [← Array.getElem?_toList, this]
    simp [Lib.byteCells, hj])
  clear h hv hg ht
  go_enter Tryz.func109, Tryz.ntmps109
  go_wp2_with fail
  go_ret
  exact ⟨rfl, rfl⟩

theorem nil_num (t : TypeId) (ht : t = 193 ∨ t = 130) (a : Addr) (w : World) : (nilAhead 341 t (.pointer (some a)) "meter/msg.num").run Tryz.prog w = .ok (some false) w := by
  rcases ht with rfl | rfl <;> kernel_rfl
theorem nil_byte (t : TypeId) (ht : t = 193 ∨ t = 130) (a : Addr) (w : World) : (nilAhead 341 t (.pointer (some a)) "meter/msg.byte").run Tryz.prog w = .ok (some false) w := by
  rcases ht with rfl | rfl <;> kernel_rfl
theorem nil_count (t : TypeId) (ht : t = 193 ∨ t = 130) (a : Addr) (w : World) : (nilAhead 341 t (.pointer (some a)) "meter/msg.count").run Tryz.prog w = .ok (some false) w := by
  rcases ht with rfl | rfl <;> kernel_rfl
theorem met_num_w (a : Addr) (w : World) : (method 341 193 (.pointer (some a)) "meter/msg.num").run Tryz.prog w = .ok (167, .pointer (some a)) w := by kernel_rfl
theorem met_byte_w (a : Addr) (w : World) : (method 341 193 (.pointer (some a)) "meter/msg.byte").run Tryz.prog w = .ok (164, .pointer (some a)) w := by kernel_rfl
theorem met_count_w (a : Addr) (w : World) : (method 341 193 (.pointer (some a)) "meter/msg.count").run Tryz.prog w = .ok (165, .pointer (some a)) w := by kernel_rfl
theorem met_num_r (a : Addr) (w : World) : (method 341 130 (.pointer (some a)) "meter/msg.num").run Tryz.prog w = .ok (148, .pointer (some a)) w := by kernel_rfl
theorem met_byte_r (a : Addr) (w : World) : (method 341 130 (.pointer (some a)) "meter/msg.byte").run Tryz.prog w = .ok (145, .pointer (some a)) w := by kernel_rfl
theorem met_count_r (a : Addr) (w : World) : (method 341 130 (.pointer (some a)) "meter/msg.count").run Tryz.prog w = .ok (146, .pointer (some a)) w := by kernel_rfl

/-- the writer's state: what was written -/
def StW (ob : Nat) (t : TypeId) (w : World) (own : List Nat) (g : List UInt8) : Prop := ∃ v, WIs w ob t v g ∧ own = ob :: v.ownBlock.toList

theorem list_set_self {α} {l : List α} {i : Nat} {x : α} (h : l[i]? = some x) : l.set i x = l := by
  obtain ⟨hi, he⟩ := List.getElem?_eq_some_iff.1 h
  rw [← he]; exact List.set_getElem_self hi

theorem own_of_step {ob : Nat} {w w' : World} {v v' : Value} (hS : WStep ob w v v' w') : ∀ k ∈ ob :: v'.ownBlock.toList, k ∈ ob :: v.ownBlock.toList ∨ w.heap.size ≤ k := by
  intro k hk
  rcases List.mem_cons.1 hk with e | hk
  · left; simp [e]
  · rcases hS.2 with e | ⟨q, e, hq⟩
    · left; rw [e] at hk; simp [hk]
    · right; rw [e] at hk; simp at hk; omega

/-- the writer -/
def KW (ob : Nat) (t : TypeId) : Wk where
  T := 193
  ob := ob
  fnum := 167
  fbyte := 164
  fcount := 165
  St := StW ob t
  Num g x g' x' := ∃ n : Nat, x = n ∧ n ≤ 2147483647 ∧ x' = x ∧ g.length ≤ 100000 ∧ g' = g ++ vb n
  Byt g x g' x' := ∃ n : Nat, x = n ∧ n < 256 ∧ x' = x ∧ g.length ≤ 100000 ∧ g' = g ++ [UInt8.ofNat n]
  Cnt g x most g' x' := ∃ n : Nat, x = n ∧ (n : Int) ≤ most ∧ n ≤ 2147483647 ∧ x' = x ∧ g.length ≤ 100000 ∧ g' = g ++ vb n
  which := .inl ⟨rfl, rfl, rfl⟩
  st_mod := by
    rintro S w w' own g ⟨v, h, rfl⟩ m hs
    exact ⟨v, h.mod m (hs _ (by simp)) (fun k hk => hs k (by simp [hk])), rfl⟩
  st_lt := by
    rintro w own g ⟨v, h, rfl⟩ k hk
    rcases List.mem_cons.1 hk with e | hk
    · rw [e]; exact h.blk.lt
    · exact h.row.lt (by simpa using hk)
  nilNum := fun w => nil_num _ (.inl rfl) _ w
  nilByte := fun w => nil_byte _ (.inl rfl) _ w
  nilCount := fun w => nil_count _ (.inl rfl) _ w
  metNum := fun w => met_num_w _ w
  metByte := fun w => met_byte_w _ w
  metCount := fun w => met_count_w _ w
  num_calls := by
    rintro w own g g' x x' pb pj cells t' ⟨v, h, rfl⟩ ⟨n, rfl, hn, rfl, hl, rfl⟩ hb hc hne
    have hc0 : w.cell? ⟨pb, pj, none⟩ = some (i64 n) := by rw [hb.read.1]; exact hc
    have hnv : v.ownBlock ≠ some pb := fun e => hne (by simp [e])
    refine (wnum_calls ob t v g n pb pj w h hn hl hc0 (fun e => hne (by simp [e])) hnv).mono ?_
    rintro e w' ⟨rfl, v', hW, hS⟩
    refine ⟨rfl, _, ⟨v', hW, rfl⟩, ?_, hS.1.mono (by intro k hk; left; simp [hk]), own_of_step hS⟩
    rw [list_set_self hc]
    exact hb.mod hS.1 (by simp; exact ⟨fun e => hne (by simp [e]), fun e => hnv (by simpa using e)⟩)
  byte_calls := by
    rintro w own g g' x x' pb pj cells t' ⟨v, h, rfl⟩ ⟨n, rfl, hn, rfl, hl, rfl⟩ hb hc hne
    have hc0 : w.cell? ⟨pb, pj, none⟩ = some (u8 n) := by rw [hb.read.1]; exact hc
    have hnv : v.ownBlock ≠ some pb := fun e => hne (by simp [e])
    refine (wbyte_calls ob t v g n pb pj w h hn hl hc0 (fun e => hne (by simp [e])) hnv).mono ?_
    rintro e w' ⟨rfl, v', hW, hS⟩
    refine ⟨rfl, _, ⟨v', hW, rfl⟩, ?_, hS.1.mono (by intro k hk; left; simp [hk]), own_of_step hS⟩
    rw [list_set_self hc]
    exact hb.mod hS.1 (by simp; exact ⟨fun e => hne (by simp [e]), fun e => hnv (by simpa using e)⟩)
  count_calls := by
    rintro w own g g' n most x' ⟨v, h, rfl⟩ ⟨n, rfl, hm, hn, rfl, hl, rfl⟩
    refine (wcount_calls ob t v g n most w h hm hn hl).mono ?_
    rintro e w' ⟨rfl, v', hW, hS⟩
    exact ⟨rfl, _, ⟨v', hW, rfl⟩, hS.1, own_of_step hS⟩
end
end Go.Proofs.YtchmhkdnegngdaaGreat
