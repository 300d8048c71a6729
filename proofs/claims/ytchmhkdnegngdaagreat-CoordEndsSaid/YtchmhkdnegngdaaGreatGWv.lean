/- Bytes that are written: the rows of bytes, putVar, Out.Num, Out.Byte, Out.String. Out.Num, Out.Byte, Out.String; the writer's methods. The writer's methods: num, byte, count; Out.String. -/
import Derived.Test.YtchmhkdnegngdaaGreatGB
import Derived.Maps.AppendAt
import Derived.Lib.UnsafeStr
import Derived.Laws.IdiomStrings
import Derived.Deep.DrawnRows
set_option linter.unusedVariables false
set_option linter.unusedSimpArgs false
namespace Go.Proofs.YtchmhkdnegngdaaGreat
open Go.RowKit

section
theorem info5 : (Tryz.prog.info? 5).map (fun i => (i.zero, i.size, i.bytes)) = some (some (.int .u8 0), 1, 1) := by kernel_rfl

abbrev u64 (n : Int) : Value := .int .u64 n
abbrev u8 (n : Int) : Value := .int .u8 n

/-- a slice of bytes that its holder owns -/
def Row (w : World) (v : Value) (bs : List UInt8) : Prop := w.ownsRow 0 5 1 v bs.length (Lib.byteCells bs)

theorem Row.nil (w : World) : Row w (.slice none 0 0) [] := World.ownsRow_nil _ _ _ _

theorem Row.same {w w' : World} {v : Value} {bs : List UInt8} (h : Row w v bs) (hs : ∀ g, v.ownBlock = some g → w'.heap[g]? = w.heap[g]?) : Row w' v bs := ownsRow_same h hs

theorem Row.lt {w : World} {v : Value} {bs : List UInt8} (h : Row w v bs) {g : Nat} (hg : v.ownBlock = some g) : g < w.heap.size := (World.ownsRow.lt h g hg).2

theorem Row.mod {S : List Nat} {w w' : World} {v : Value} {bs : List UInt8} (h : Row w v bs) (m : Mod S w w') (hs : ∀ g, v.ownBlock = some g → g ∉ S) : Row w' v bs :=
  h.same fun g hg => m.block g (h.lt hg) (hs g hg)

theorem Row.ext {w w' : World} {v : Value} {bs : List UInt8} (h : Row w v bs) (m : Ext w w') : Row w' v bs := h.mod (Mod.of_ext (S := []) m) (by simp)
theorem Row.alloc {w : World} {v : Value} {bs : List UInt8} (h : Row w v bs) (o : Obj) : Row (w.alloc o) v bs := h.ext (by (refine Mod.to_ext (S := []) ?_ (by simp); repeat (first | (with_reducible exact Mod.refl _ _) | (with_reducible assumption) | (with_reducible refine Mod.alloc ?_ _) | (with_reducible refine Mod.drew ?_) | (with_reducible refine Mod.drewN ?_ _))))
theorem Row.drew {w : World} {v : Value} {bs : List UInt8} (h : Row w v bs) : Row w.drew v bs := h
theorem Row.drewN {w : World} {v : Value} {bs : List UInt8} (h : Row w v bs) (n : Nat) : Row (w.drewN n) v bs := h
theorem Row.setCell {w : World} {v : Value} {bs : List UInt8} (h : Row w v bs) (a : Addr) (u : Value) (hs : ∀ g, v.ownBlock = some g → g ≠ a.block) : Row (w.setCell a u) v bs :=
  h.mod (S := [a.block]) (by repeat (first | (with_reducible exact Mod.refl _ _) | (with_reducible assumption) | (with_reducible refine Mod.setCell ?_ (by simp) _) | (with_reducible refine Mod.alloc ?_ _) | (with_reducible refine Mod.drew ?_) | (with_reducible refine Mod.drewN ?_ _))) (by simpa using hs)

/-- how an owned slice goes on from v to v' -/
def Step (w : World) (v v' : Value) (w' : World) : Prop :=
  Mod v.ownBlock.toList w w' ∧ (v'.ownBlock = v.ownBlock ∨ ∃ k, v'.ownBlock = some k ∧ w.heap.size ≤ k)

theorem Step.refl (w : World) (v : Value) : Step w v v w := ⟨Mod.refl _ _, .inl rfl⟩

theorem Step.trans {a b c : World} {v v' v'' : Value} (h : Step a v v' b) (k : Step b v' v'' c) : Step a v v'' c := by
  refine ⟨h.1.step k.1 ?_, ?_⟩
  · intro x hx
    rcases h.2 with e | ⟨q, e, hq⟩
    · left; rw [← e]; exact hx
    · right; rw [e] at hx; simp at hx; omega
  · rcases k.2 with e | ⟨q, e, hq⟩
    · rw [e]; exact h.2
    · exact .inr ⟨q, e, Nat.le_trans h.1.size hq⟩

theorem Step.alloc {a b : World} {v v' : Value} (h : Step a v v' b) (o : Obj) : Step a v v' (b.alloc o) := ⟨h.1.alloc o, h.2⟩
theorem Step.ext {a b c : World} {v v' : Value} (h : Step a v v' b) (o : Ext b c) : Step a v v' c := ⟨h.1.ext o, h.2⟩

theorem Step.grown {a b c : World} {v v' : Value} (h : Ext a b) (hg : b.grownBy c v.ownBlock) (ho : v'.ownBlock = v.ownBlock ∨ v'.ownBlock = some b.heap.size) : Step a v v' c := by
  refine ⟨(Mod.of_ext h).grown hg (fun k hk => .inl (by simp [hk])), ?_⟩
  rcases ho with e | e
  · exact .inl e
  · exact .inr ⟨_, e, h.size⟩

/-- a number's bytes, seven bits each -/
def vb (x : Nat) : List UInt8 :=
  if h : x < 128 then [UInt8.ofNat x] else UInt8.ofNat (x % 128 + 128) :: vb (x / 128)
termination_by x
decreasing_by omega

theorem vb_lt {x : Nat} (h : x < 128) : vb x = [UInt8.ofNat x] := by rw [vb]; simp [h]
theorem vb_ge {x : Nat} (h : ¬ x < 128) : vb x = UInt8.ofNat (x % 128 + 128) :: vb (x / 128) := by rw [vb]; simp [h]

theorem vb_length {x k : Nat} (h : x < 128 ^ (k + 1)) : (vb x).length ≤ k + 1 := by
  induction k generalizing x with
  | zero => rw [vb_lt (by simpa using h)]; simp
  | succ k ih =>
    by_cases hx : x < 128
    · rw [vb_lt hx]; simp
    · rw [vb_ge hx]
      have := @ih (x / 128) (by rw [Nat.div_lt_iff_lt_mul (by decide)]; rw [Nat.pow_succ] at h; exact h)
      simp; omega

theorem vb10 {x : Nat} (h : x < 18446744073709551616) : (vb x).length ≤ 10 := vb_length (k := 9) (Nat.lt_trans h (by decide))

/-- a slice that comes back with bs in it -/
def RowPost (w : World) (v : Value) (bs : List UInt8) (e : Ending) (w' : World) : Prop :=
  ∃ v', e = .returned v' ∧ Row w' v' bs ∧ Step w v v' w'

theorem low7F : ∀ n : Fin 256, bits BinOp.or IntKind.u8 (n.val : Int) 128 = ((n.val % 128 + 128 : Nat) : Int) := by decide +kernel

theorem low7 (x : Nat) : bits BinOp.or IntKind.u8 ((x : Int) % 256) 128 = ((x % 128 + 128 : Nat) : Int) := by
  have := low7F ⟨x % 256, Nat.mod_lt _ (by decide)⟩
  have e : ((x % 256 : Nat) : Int) = (x : Int) % 256 := by omega
  simp only [e] at this
  rw [this]
  have : x % 256 % 128 = x % 128 := by omega
  rw [this]

theorem news_byte {w : World} {b : Nat} {x : Nat} {y : Int} (hx : x < 256) (hy : y = (x : Int)) (h : Blk w b [u8 y] 5) :
    ∀ j u, (Lib.byteCells [UInt8.ofNat x])[j]? = some u → w.cell? ((⟨b, 0, none⟩ : Addr).add j) = some u := by
  subst hy
  intro j u hj
  have e : Lib.byteCells [UInt8.ofNat x] = [u8 x] := by
    have : (UInt8.ofNat x).toNat = x := by simp; omega
    simp [Lib.byteCells, this]
  rw [e] at hj
  rw [addr_add, h.read.1, Nat.zero_add]
  exact hj

theorem byte_one (l : List UInt8) : ∀ u ∈ Lib.byteCells l, u.oneCell' = true := by
  intro u hu
  simp only [Lib.byteCells, List.mem_map] at hu
  obtain ⟨x, _, rfl⟩ := hu
  rfl

set_option maxRecDepth 100000 in
set_option maxHeartbeats 800000 in
theorem putVar_calls (v : Value) (bs : List UInt8) (x : Nat) (w : World) (h : Row w v bs) (hx : x < 18446744073709551616) (hl : bs.length ≤ 100000) :
    Calls Tryz.prog 175 #[v, u64 x] w (RowPost w v (bs ++ vb x)) := by
  obtain ⟨i0, hi, hz0, hz1, hz2⟩ := info_parts info5
  have hv := vb10 hx
  have HR := Lib.hid h
  have HL := Lib.hid hl
  have HX := Lib.hid hx
  clear h hl hx
  go_enter Tryz.func175, Tryz.ntmps175
  go_wp2_with fail
  go_loopw [0, 1] (fun u y wr => ∃ (cs : List UInt8) (m : Nat), y = u64 m ∧ Row wr u cs ∧ cs ++ vb m = bs ++ vb x ∧ Step w v u wr ∧ m ≤ x) (fun _ y _ => (intOf y).toNat)
  case atStart => exact ⟨bs, x, rfl, HR.out, rfl, Step.refl _ _, Nat.le_refl _⟩
  case round =>
    obtain ⟨cs, m, rfl, hR, he, hS, hm⟩ := hrel
    have hlen : cs.length ≤ 100010 := by have := congrArg List.length he; have := HL.out; simp at *; omega
    have hm64 : m < 18446744073709551616 := Nat.lt_of_le_of_lt hm HX.out
    have HR2 := Lib.hid hR
    have HE := Lib.hid he
    have HS := Lib.hid hS
    clear hR he hS
    by_cases hc : m < 128
    · go_wp2_with (at_builtin; refine wpList_append_own_at _ rfl _ _ 144 rfl 0 5 i0 (.int .u8 0) 1 1 Tryz.underlying144 hi hz0 hz1 hz2 rfl (by decide) u0 cs.length _ rfl ((HR2.out).alloc _) ⟨wr.heap.size, 0, none⟩ 1 1 (Lib.byteCells [UInt8.ofNat m]) rfl rfl (news_byte (by omega) rfl (Blk.at _ _ _ _ rfl)) (byte_one _) (by unfold maxLen; omega) (by omega) (Nat.zero_le _) ?_; intro v' w' ho hg hn hb)
      go_ret
      refine ⟨v', rfl, ?_, HS.out.trans (Step.grown (by (refine Mod.to_ext (S := []) ?_ (by simp); repeat (first | (with_reducible exact Mod.refl _ _) | (with_reducible assumption) | (with_reducible refine Mod.alloc ?_ _) | (with_reducible refine Mod.drew ?_) | (with_reducible refine Mod.drewN ?_ _)))) hg hb)⟩
      rw [← HE.out, vb_lt hc]
      unfold Row
      rw [List.length_append]; simpa [Lib.byteCells] using ho
    · have l7 := low7 m
      have hq := Lib.hid (show (m : Int) % 128 + 128 = ((m % 128 + 128 : Nat) : Int) by omega)
      go_wp2_with (at_builtin; refine wpList_append_own_at _ rfl _ _ 144 rfl 0 5 i0 (.int .u8 0) 1 1 Tryz.underlying144 hi hz0 hz1 hz2 rfl (by decide) u0 cs.length _ rfl ((HR2.out).alloc _) ⟨wr.heap.size, 0, none⟩ 1 1 (Lib.byteCells [UInt8.ofNat (m % 128 + 128)]) rfl rfl (news_byte (by omega) hq.out (Blk.at _ _ _ _ rfl)) (byte_one _) (by unfold maxLen; omega) (by omega) (Nat.zero_le _) ?_; intro v' w' ho hg hn hb)
      go_roundw
      case rel =>
        refine ⟨cs ++ [UInt8.ofNat (m % 128 + 128)], m / 128, ?_, ?_, ?_, HS.out.trans (Step.grown (by (refine Mod.to_ext (S := []) ?_ (by simp); repeat (first | (with_reducible exact Mod.refl _ _) | (with_reducible assumption) | (with_reducible refine Mod.alloc ?_ _) | (with_reducible refine Mod.drew ?_) | (with_reducible refine Mod.drewN ?_ _)))) hg hb), by omega⟩
        · go_num
        · unfold Row
          rw [List.length_append]; simpa [Lib.byteCells] using ho
        · rw [← HE.out, vb_ge hc, List.append_assoc]; rfl
      case measure => simp [intOf]; omega
end

section
theorem Row.slice {w : World} {v : Value} {bs : List UInt8} (h : Row w v bs) : ∃ a n c, v = .slice a n c := by
  rcases h.2 with ⟨e, h0⟩ | ⟨g, cap, cur, e, _⟩
  · exact ⟨_, _, _, e⟩
  · exact ⟨_, _, _, e⟩

/-- a writer in memory -/
structure WIs (w : World) (ob : Nat) (t : TypeId) (v : Value) (bs : List UInt8) : Prop where
  blk : Blk w ob [v] t
  row : Row w v bs
  ne : ∀ g, v.ownBlock = some g → g ≠ ob

/-- how a writer goes on -/
def WStep (ob : Nat) (w : World) (v v' : Value) (w' : World) : Prop :=
  Mod (ob :: v.ownBlock.toList) w w' ∧ (v'.ownBlock = v.ownBlock ∨ ∃ k, v'.ownBlock = some k ∧ w.heap.size ≤ k)

theorem WStep.mod {ob : Nat} {w w' : World} {v v' : Value} (h : WStep ob w v v' w') : Mod (ob :: v.ownBlock.toList) w w' := h.1
theorem WStep.cell {ob : Nat} {w w' : World} {v v' u : Value} {pb pj : Nat} (h : WStep ob w v v' w') (hc : w.cell? ⟨pb, pj, none⟩ = some u) (hne : pb ≠ ob) (hnv : v.ownBlock ≠ some pb) :
    w'.cell? ⟨pb, pj, none⟩ = some u :=
  (World.cell?_of_block (h.1.block pb (World.block_lt_of_cell? w _ hc) (by simp; exact ⟨hne, fun e => hnv e⟩))).trans hc

theorem WStep.refl (ob : Nat) (w : World) (v : Value) : WStep ob w v v w := ⟨Mod.refl _ _, .inl rfl⟩

theorem WStep.trans {ob : Nat} {a b c : World} {v v' v'' : Value} (h : WStep ob a v v' b) (k : WStep ob b v' v'' c) : WStep ob a v v'' c := by
  refine ⟨h.1.step k.1 ?_, ?_⟩
  · intro x hx
    rcases List.mem_cons.1 hx with e | hx
    · left; simp [e]
    rcases h.2 with e | ⟨q, e, hq⟩
    · left; rw [← e]; exact List.mem_cons_of_mem _ hx
    · right; rw [e] at hx; simp at hx; omega
  · rcases k.2 with e | ⟨q, e, hq⟩
    · rw [e]; exact h.2
    · exact .inr ⟨q, e, Nat.le_trans h.1.size hq⟩

theorem WStep.ext {ob : Nat} {a b c : World} {v v' : Value} (h : WStep ob a v v' b) (o : Ext b c) : WStep ob a v v' c := ⟨h.1.ext o, h.2⟩
theorem WStep.pre {ob : Nat} {a b c : World} {v v' : Value} (o : Ext a b) (h : WStep ob b v v' c) : WStep ob a v v' c :=
  ⟨(Mod.of_ext o).trans h.1, h.2.imp id fun ⟨k, e, hk⟩ => ⟨k, e, Nat.le_trans o.size hk⟩⟩

theorem WIs.mod {S : List Nat} {w w' : World} {ob : Nat} {t : TypeId} {v : Value} {bs : List UInt8} (h : WIs w ob t v bs) (m : Mod S w w') (h1 : ob ∉ S) (h2 : ∀ g, v.ownBlock = some g → g ∉ S) : WIs w' ob t v bs :=
  ⟨h.blk.mod m h1, h.row.mod m h2, h.ne⟩
theorem WIs.ext {w w' : World} {ob : Nat} {t : TypeId} {v : Value} {bs : List UInt8} (h : WIs w ob t v bs) (m : Ext w w') : WIs w' ob t v bs :=
  h.mod (S := []) (Mod.of_ext m) (by simp) (by simp)

theorem WIs.drew {w : World} {ob : Nat} {t : TypeId} {v : Value} {bs : List UInt8} (h : WIs w ob t v bs) : WIs w.drew ob t v bs := ⟨h.blk, h.row, h.ne⟩
theorem WStep.undrew {ob : Nat} {w w' : World} {v v' : Value} (h : WStep ob w.drew v v' w') : WStep ob w v v' w' := ⟨(Mod.refl _ w).drew.trans h.1, h.2⟩

/-- bs are written now -/
def Wrote (ob : Nat) (t : TypeId) (v : Value) (w : World) (bs : List UInt8) (e : Ending) (w' : World) : Prop :=
  e = .returned (.tuple #[]) ∧ ∃ v', WIs w' ob t v' bs ∧ WStep ob w v v' w'

theorem num_calls (ob : Nat) (t : TypeId) (v : Value) (bs : List UInt8) (x : Nat) (w : World) (h : WIs w ob t v bs) (hx : x < 18446744073709551616) (hl : bs.length ≤ 100000) :
    Calls Tryz.prog 171 #[.pointer (some ⟨ob, 0, none⟩), u64 x] w (Wrote ob t v w (bs ++ vb x)) := by
  have R := putVar_calls v bs x w h.row hx hl
  obtain ⟨c0, f0⟩ := h.blk.read
  have hlt := h.blk.lt
  go_enter Tryz.func171, Tryz.ntmps171
  go_wp2_with fail
  refine R.mono ?_
  rintro e w1 ⟨v', rfl, hR, hS⟩
  obtain ⟨sa, sn, sc, rfl⟩ := hR.slice
  have b1 := h.blk.mod hS.1 (fun e => h.ne ob (by simpa using e) rfl)
  obtain ⟨c1, f1⟩ := b1.read
  have HB := Lib.hid b1
  have HR := Lib.hid hR
  have HS := Lib.hid hS
  clear b1 hR hS R
  go_wp2_with fail
  refine bodyPost_ret (results_none rfl _ _ _) rfl ?_
  have hn : ∀ g, (Value.slice sa sn sc).ownBlock = some g → g ≠ ob := by
    intro g hg
    rcases HS.out.2 with e | ⟨k, e, hk⟩
    · exact h.ne g (by rw [← e]; exact hg)
    · rw [e] at hg; cases hg; omega
  refine ⟨rfl, _, ⟨HB.out.set 0 _, HR.out.setCell _ _ hn, hn⟩, ?_, HS.out.2⟩
  have m1 : Mod (ob :: v.ownBlock.toList) w w1 := HS.out.1.mono (by intro x hx; simp [hx])
  exact m1.setCell (by simp) _

set_option maxRecDepth 100000 in
theorem byte_calls (ob : Nat) (t : TypeId) (v : Value) (bs : List UInt8) (x : Nat) (w : World) (h : WIs w ob t v bs) (hx : x < 256) (hl : bs.length ≤ 100000) :
    Calls Tryz.prog 170 #[.pointer (some ⟨ob, 0, none⟩), u8 x] w (Wrote ob t v w (bs ++ [UInt8.ofNat x])) := by
  obtain ⟨i0, hi, hz0, hz1, hz2⟩ := info_parts info5
  obtain ⟨c0, f0⟩ := h.blk.read
  have hlt := h.blk.lt
  have HH := Lib.hid h
  clear h
  go_enter Tryz.func170, Tryz.ntmps170
  go_wp2_with (at_builtin; refine wpList_append_own_at _ rfl _ _ 144 rfl 0 5 i0 (.int .u8 0) 1 1 Tryz.underlying144 hi hz0 hz1 hz2 rfl (by decide) v bs.length _ rfl ((HH.out.row).alloc _) ⟨w.heap.size, 0, none⟩ 1 1 (Lib.byteCells [UInt8.ofNat x]) rfl rfl (news_byte (by omega) rfl (Blk.at _ _ _ _ rfl)) (byte_one _) (by unfold maxLen; omega) (by omega) (Nat.zero_le _) ?_; intro v' w1 ho hg hn hb; have hr : Row w1 v' (bs ++ [UInt8.ofNat x]) := (by unfold Row; rw [List.length_append]; simpa [Lib.byteCells] using ho); obtain ⟨sa, sn, sc, rfl⟩ := hr.slice; have hS := Lib.hid (Step.grown (a := w) (by (refine Mod.to_ext (S := []) ?_ (by simp); repeat (first | (with_reducible exact Mod.refl _ _) | (with_reducible assumption) | (with_reducible refine Mod.alloc ?_ _) | (with_reducible refine Mod.drew ?_) | (with_reducible refine Mod.drewN ?_ _)))) hg hb); have b1 := HH.out.blk.mod hS.out.1 (fun e => HH.out.ne ob (by simpa using e) rfl); have HB := Lib.hid b1; obtain ⟨c1, f1⟩ := b1.read; have HO := Lib.hid hr; clear ho hg hn hb b1 hr)
  refine bodyPost_ret (results_none rfl _ _ _) rfl ?_
  have hn : ∀ g, (Value.slice sa sn sc).ownBlock = some g → g ≠ ob := by
    intro g hg
    rcases hS.out.2 with e | ⟨k, e, hk⟩
    · exact HH.out.ne g (by rw [← e]; exact hg)
    · rw [e] at hg; cases hg; omega
  refine ⟨rfl, _, ⟨HB.out.set 0 _, HO.out.setCell _ _ hn, hn⟩, ?_, hS.out.2⟩
  have m1 : Mod (ob :: v.ownBlock.toList) w w1 := hS.out.1.mono (by intro x hx; simp [hx])
  exact m1.setCell (by simp) _
end

section
theorem held_calls (x : Nat) (most : Int) (w : World) (h : (x : Int) ≤ most) (hx : x < 9223372036854775808) :
    Calls Tryz.prog 172 #[i64 x, i64 most] w (fun e w' => e = .returned (u64 x) ∧ w = w') := by
  go_enter Tryz.func172, Tryz.ntmps172
  go_wp2
  go_ret
  refine ⟨?_, rfl⟩
  go_num

set_option maxRecDepth 100000 in
theorem wnum_calls (ob : Nat) (t : TypeId) (v : Value) (bs : List UInt8) (x : Nat) (pb pj : Nat) (w : World) (h : WIs w ob t v bs) (hx : x ≤ 2147483647) (hl : bs.length ≤ 100000)
    (hc : w.cell? ⟨pb, pj, none⟩ = some (i64 x)) (hne : pb ≠ ob) (hnv : v.ownBlock ≠ some pb) :
    Calls Tryz.prog 167 #[.pointer (some ⟨ob, 0, none⟩), .pointer (some ⟨pb, pj, none⟩)] w (Wrote ob t v w (bs ++ vb x)) := by
  have HH := Lib.hid h
  obtain ⟨c0, f0⟩ := h.blk.read
  have hlt := h.blk.lt
  clear h
  go_enter Tryz.func167, Tryz.ntmps167
  go_wp2_with fail
  go_region_held3 (fun w' => w'.cell? ⟨pb, pj, none⟩ = some (i64 x)) (first | assumption | go_keep | (simp [*, go_sem]; done)) (first | (with_reducible refine (held_calls x _ _ (by omega) (by omega)).mono ?_; rintro e w' ⟨rfl, rfl⟩) | (with_reducible refine (num_calls ob t v bs x _ HH.out.drew (by omega) hl).mono ?_; intro e w' h0; unfold Wrote at h0; obtain ⟨rfl, v', hW, hS⟩ := h0; have hcc := hS.undrew.cell hc hne hnv))
  refine bodyPost_ret (results_none rfl _ _ _) rfl ?_
  exact ⟨rfl, v', hW, hS.undrew⟩
end
end Go.Proofs.YtchmhkdnegngdaaGreat
