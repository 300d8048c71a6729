/- Sorting entries: pdqsort and SortFunc at up to twelve. -/
import Derived.Test.YtchmhkdnegngdaaGreatMv
import Derived.Test.YtchmhkdnegngdaaGreatSh
set_option linter.unusedVariables false
set_option linter.unusedSimpArgs false
namespace Go.Proofs.YtchmhkdnegngdaaGreat
open Go.RowKit


set_option maxRecDepth 100000 in
theorem pdq_calls (g cap : Nat) (es : List Ent) (lim : Int) (w : World) (h : EB w g cap es) (hl : es.length ≤ 12) :
    Calls Tryz.prog 76 #[.slice (some ⟨g, 0, none⟩) es.length cap, i64 0, i64 es.length, i64 lim, .func (.func 62) #[] #[]] w (SortPost g cap es w) := by
  go_enter Tryz.func76, Tryz.ntmps76
  go_wp2_with fail
  refine wp_loop_once ?_
  go_wp2_with fail
  refine (insSort_calls g cap es w h hl).mono ?_
  rintro e w' ⟨rfl, hh⟩
  have H := Lib.hid hh
  clear hh
  go_wp2_with fail
  go_end0
  exact ⟨rfl, H.out⟩

theorem sortFunc_calls (g cap : Nat) (es : List Ent) (w : World) (h : EB w g cap es) (hl : es.length ≤ 12) :
    Calls Tryz.prog 61 #[.slice (some ⟨g, 0, none⟩) es.length cap, .func (.func 62) #[] #[]] w (SortPost g cap es w) := by
  go_enter Tryz.func61, Tryz.ntmps61
  go_wp2_with fail
  refine (bits_Len es.length w (by omega) (by omega)).mono ?_
  rintro e w' ⟨rfl, rfl⟩
  go_wp2_with fail
  refine (pdq_calls g cap es _ _ h hl).mono ?_
  rintro e w' ⟨rfl, hh⟩
  have H := Lib.hid hh
  clear hh
  go_wp2_with fail
  go_end0
  exact ⟨rfl, H.out⟩
end Go.Proofs.YtchmhkdnegngdaaGreat
