/- The sort of jumps is the sort of any elements. -/
import Derived.Test.YtgeajlnkbfeidaaPSort3
import Derived.Test.YtgeajlnkbfeidaaDefs
namespace Go.Abs
theorem ins_inst : @s_slices_insertionSortCmpFunc_api_Jump = @gs_insertionSort api_Jump _ := rfl
theorem swap_inst : @s_slices_swapRangeCmpFunc_api_Jump = @gs_swapRange api_Jump _ := rfl
theorem rot_inst : @s_slices_rotateCmpFunc_api_Jump = @gs_rotate api_Jump _ := rfl
theorem step_inst : @slices_symMergeCmpFunc_api_Jump_step = @g_symMerge_step api_Jump _ := rfl
theorem at_inst (cmp) : ∀ k, @slices_symMergeCmpFunc_api_Jump_at cmp k = @g_symMerge_at api_Jump _ cmp k
  | 0 => rfl
  | k + 1 => by
    show slices_symMergeCmpFunc_api_Jump_step cmp _ = g_symMerge_step cmp _
    rw [at_inst cmp k, step_inst]
theorem sym_inst : @s_slices_symMergeCmpFunc_api_Jump = @gs_symMerge api_Jump _ := by
  funext d a m b cmp
  unfold s_slices_symMergeCmpFunc_api_Jump gs_symMerge
  simp only [at_inst]
theorem stable_inst : @s_slices_stableCmpFunc_api_Jump = @gs_stable api_Jump _ := by
  funext d n cmp
  unfold s_slices_stableCmpFunc_api_Jump gs_stable slices_stableCmpFunc_api_Jump_h6 g_stable_h6
  unfold slices_stableCmpFunc_api_Jump_l6 g_stable_l6 slices_stableCmpFunc_api_Jump_j1 g_stable_j1
  unfold slices_stableCmpFunc_api_Jump_h2 g_stable_h2 slices_stableCmpFunc_api_Jump_l2 g_stable_l2
  unfold slices_stableCmpFunc_api_Jump_h5 g_stable_h5 slices_stableCmpFunc_api_Jump_l5 g_stable_l5
  unfold slices_stableCmpFunc_api_Jump_j3 g_stable_j3
  rw [sym_inst, ins_inst]
  rfl
end Go.Abs
