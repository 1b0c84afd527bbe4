/- MetaErrors' run behind that part, for four letters. -/
import Derived.Test.YtclcobiaiedpbaaDoorMetaErrorsA
namespace Go.Proofs.YtclcobiaiedpbaaDoor.metaErrors
open Go Go.Ab
set_option maxRecDepth 100000
theorem check8 : MemoOk Tryd.prog (checkM 105) := memo_of_quick (quickB_sound noneK_sound 40) rfl rfl (by kernel_rfl)
theorem of8 : MemoOk Tryd.prog (ofM [118] [99, 105] 12) := memo_of_quick (quickB_sound noneK_sound 40) rfl rfl (by kernel_rfl)
theorem good8 (n : Int) : goodK 105 12 n 8 = true := by kernel_rfl
theorem letter8 : Letter 8 := ⟨105, 12, check8, of8, good8⟩
theorem check9 : MemoOk Tryd.prog (checkM 106) := memo_of_quick (quickB_sound noneK_sound 40) rfl rfl (by kernel_rfl)
theorem of9 : MemoOk Tryd.prog (ofM [118] [99, 106] 1) := memo_of_quick (quickB_sound noneK_sound 40) rfl rfl (by kernel_rfl)
theorem good9 (n : Int) : goodK 106 1 n 9 = true := by kernel_rfl
theorem letter9 : Letter 9 := ⟨106, 1, check9, of9, good9⟩
theorem check10 : MemoOk Tryd.prog (checkM 107) := memo_of_quick (quickB_sound noneK_sound 40) rfl rfl (by kernel_rfl)
theorem of10 : MemoOk Tryd.prog (ofM [118] [99, 107] 15) := memo_of_quick (quickB_sound noneK_sound 40) rfl rfl (by kernel_rfl)
theorem good10 (n : Int) : goodK 107 15 n 10 = true := by kernel_rfl
theorem letter10 : Letter 10 := ⟨107, 15, check10, of10, good10⟩
theorem check11 : MemoOk Tryd.prog (checkM 108) := memo_of_quick (quickB_sound noneK_sound 40) rfl rfl (by kernel_rfl)
theorem of11 : MemoOk Tryd.prog (ofM [118] [99, 108] 0) := memo_of_quick (quickB_sound noneK_sound 40) rfl rfl (by kernel_rfl)
theorem good11 (n : Int) : goodK 108 0 n 11 = true := by kernel_rfl
theorem letter11 : Letter 11 := ⟨108, 0, check11, of11, good11⟩
end Go.Proofs.YtclcobiaiedpbaaDoor.metaErrors
