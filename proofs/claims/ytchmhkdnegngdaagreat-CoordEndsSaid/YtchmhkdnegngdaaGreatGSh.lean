/- math/bits.Len: its contract off the shelf, laid at this dump (written by the kit's lay-plain.mjs, names turned). Sorting entries: pdqsort and SortFunc at up to twelve. -/
import Derived.Test.YtchmhkdnegngdaaGreatGB
import Derived.Test.YtchmhkdnegngdaaGreatGMv
import Derived.Shelf.Small.Bits
set_option linter.unusedVariables false
set_option linter.unusedSimpArgs false
namespace Go.Proofs.YtchmhkdnegngdaaGreat
open Go.RowKit

section
open Go.Shelf
def lays125ren : Go.Shelf.Ren := ⟨fun | 125 => 77 | 128 => 106 | 129 => 107 | n => n, fun | 46 => 142 | 3 => 3 | 51 => 152 | 53 => 36 | 4 => 4 | 5 => 5 | 9 => 9 | n => n, fun | n => n⟩
theorem lays125 : Go.Proofs.Lays.n125 Tryz.prog lays125ren := {
  mixed := by kernel_rfl
  f125 := Tryz.func77.trans (congrArg some (by kernel_rfl))
  f128 := Tryz.func106.trans (congrArg some (by kernel_rfl))
  f129 := Tryz.func107.trans (congrArg some (by kernel_rfl))
  t3 := Tryz.underlying3
  a3 := Tryz.isAgg3
  z3 := Tryz.sizeOf3
  v3 := Tryz.zeroValue3
  t4 := Tryz.underlying4
  a4 := Tryz.isAgg4
  z4 := Tryz.sizeOf4
  v4 := Tryz.zeroValue4
  t5 := Tryz.underlying5
  a5 := Tryz.isAgg5
  z5 := Tryz.sizeOf5
  v5 := Tryz.zeroValue5
  t9 := Tryz.underlying9
  a9 := Tryz.isAgg9
  z9 := Tryz.sizeOf9
  v9 := Tryz.zeroValue9
  t46 := Tryz.underlying142
  a46 := Tryz.isAgg142
  z46 := Tryz.sizeOf142
  v46 := Tryz.zeroValue142
  t51 := Tryz.underlying152
  a51 := Tryz.isAgg152
  z51 := Tryz.sizeOf152
  v51 := Tryz.zeroValue152
  t53 := Tryz.underlying36
  a53 := Tryz.isAgg36
  z53 := Tryz.sizeOf36
  v53 := Tryz.zeroValue36 }

theorem bits_Len (x : Int) (w : World) (h0 : 0 ≤ x) (h1 : x ≤ 18446744073709551615) :
    Calls Tryz.prog 77 #[.int .u64 x] w fun e w' => e = .returned (.int .i64 (Lib.bitLen x.toNat)) ∧ w' = w := Any.bits_Len lays125 x w h0 h1
end

section
set_option maxRecDepth 100000 in
theorem pdq_calls (g cap : Nat) (es : List Ent) (lim : Int) (w : World) (h : EB w g cap es) (hl : es.length ≤ 12) :
    Calls Tryz.prog 76 #[.slice (some ⟨g, 0, none⟩) es.length cap, i64 0, i64 es.length, i64 lim, .func (.func 62) #[] #[]] w (SortPost g cap es w) := by
  go_enter Tryz.func76, Tryz.ntmps76
  go_wp2_with fail
  refine wp_loop_once ?_
  go_wp2_with fail
  refine (insSort_calls g cap es w h hl).mono ?_
  rintro e w' ⟨rfl, hh⟩
  have H := Lib.hid hh
  clear hh
  go_wp2_with fail
  go_end0
  exact ⟨rfl, H.out⟩

theorem sortFunc_calls (g cap : Nat) (es : List Ent) (w : World) (h : EB w g cap es) (hl : es.length ≤ 12) :
    Calls Tryz.prog 61 #[.slice (some ⟨g, 0, none⟩) es.length cap, .func (.func 62) #[] #[]] w (SortPost g cap es w) := by
  go_enter Tryz.func61, Tryz.ntmps61
  go_wp2_with fail
  refine (bits_Len es.length w (by omega) (by omega)).mono ?_
  rintro e w' ⟨rfl, rfl⟩
  go_wp2_with fail
  refine (pdq_calls g cap es _ _ h hl).mono ?_
  rintro e w' ⟨rfl, hh⟩
  have H := Lib.hid hh
  clear hh
  go_wp2_with fail
  go_end0
  exact ⟨rfl, H.out⟩
end
end Go.Proofs.YtchmhkdnegngdaaGreat
