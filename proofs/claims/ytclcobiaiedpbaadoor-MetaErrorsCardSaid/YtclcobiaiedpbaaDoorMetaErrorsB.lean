/- MetaErrors' run behind that part, for four letters. -/
import Derived.Test.YtclcobiaiedpbaaDoorMetaErrorsA
namespace Go.Proofs.YtclcobiaiedpbaaDoor.metaErrors
open Go Go.Ab
set_option maxRecDepth 100000
theorem check0 : MemoOk Tryd.prog (checkM 97) := memo_of_quick (quickB_sound noneK_sound 40) rfl rfl (by kernel_rfl)
theorem of0 : MemoOk Tryd.prog (ofM [118] [99, 97] 11) := memo_of_quick (quickB_sound noneK_sound 40) rfl rfl (by kernel_rfl)
theorem good0 (n : Int) : goodK 97 11 n 0 = true := by kernel_rfl
theorem letter0 : Letter 0 := ⟨97, 11, check0, of0, good0⟩
theorem check1 : MemoOk Tryd.prog (checkM 98) := memo_of_quick (quickB_sound noneK_sound 40) rfl rfl (by kernel_rfl)
theorem of1 : MemoOk Tryd.prog (ofM [118] [99, 98] 7) := memo_of_quick (quickB_sound noneK_sound 40) rfl rfl (by kernel_rfl)
theorem good1 (n : Int) : goodK 98 7 n 1 = true := by kernel_rfl
theorem letter1 : Letter 1 := ⟨98, 7, check1, of1, good1⟩
theorem check2 : MemoOk Tryd.prog (checkM 99) := memo_of_quick (quickB_sound noneK_sound 40) rfl rfl (by kernel_rfl)
theorem of2 : MemoOk Tryd.prog (ofM [118] [99, 99] 2) := memo_of_quick (quickB_sound noneK_sound 40) rfl rfl (by kernel_rfl)
theorem good2 (n : Int) : goodK 99 2 n 2 = true := by kernel_rfl
theorem letter2 : Letter 2 := ⟨99, 2, check2, of2, good2⟩
theorem check3 : MemoOk Tryd.prog (checkM 100) := memo_of_quick (quickB_sound noneK_sound 40) rfl rfl (by kernel_rfl)
theorem of3 : MemoOk Tryd.prog (ofM [118] [99, 100] 6) := memo_of_quick (quickB_sound noneK_sound 40) rfl rfl (by kernel_rfl)
theorem good3 (n : Int) : goodK 100 6 n 3 = true := by kernel_rfl
theorem letter3 : Letter 3 := ⟨100, 6, check3, of3, good3⟩
end Go.Proofs.YtclcobiaiedpbaaDoor.metaErrors
