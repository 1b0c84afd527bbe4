/- MetaErrors' run behind that part, for four letters. -/
import Derived.Test.YtclcobiaiedpbaaDoorMetaErrorsA
namespace Go.Proofs.YtclcobiaiedpbaaDoor.metaErrors
open Go Go.Ab
set_option maxRecDepth 100000
theorem check12 : MemoOk Tryd.prog (checkM 109) := memo_of_quick (quickB_sound noneK_sound 40) rfl rfl (by kernel_rfl)
theorem of12 : MemoOk Tryd.prog (ofM [118] [99, 109] 13) := memo_of_quick (quickB_sound noneK_sound 40) rfl rfl (by kernel_rfl)
theorem good12 (n : Int) : goodK 109 13 n 12 = true := by kernel_rfl
theorem letter12 : Letter 12 := ⟨109, 13, check12, of12, good12⟩
theorem check13 : MemoOk Tryd.prog (checkM 110) := memo_of_quick (quickB_sound noneK_sound 40) rfl rfl (by kernel_rfl)
theorem of13 : MemoOk Tryd.prog (ofM [118] [99, 110] 2) := memo_of_quick (quickB_sound noneK_sound 40) rfl rfl (by kernel_rfl)
theorem good13 (n : Int) : goodK 110 2 n 13 = true := by kernel_rfl
theorem letter13 : Letter 13 := ⟨110, 2, check13, of13, good13⟩
theorem check14 : MemoOk Tryd.prog (checkM 111) := memo_of_quick (quickB_sound noneK_sound 40) rfl rfl (by kernel_rfl)
theorem of14 : MemoOk Tryd.prog (ofM [118] [99, 111] 10) := memo_of_quick (quickB_sound noneK_sound 40) rfl rfl (by kernel_rfl)
theorem good14 (n : Int) : goodK 111 10 n 14 = true := by kernel_rfl
theorem letter14 : Letter 14 := ⟨111, 10, check14, of14, good14⟩
theorem check15 : MemoOk Tryd.prog (checkM 112) := memo_of_quick (quickB_sound noneK_sound 40) rfl rfl (by kernel_rfl)
theorem of15 : MemoOk Tryd.prog (ofM [118] [99, 112] 3) := memo_of_quick (quickB_sound noneK_sound 40) rfl rfl (by kernel_rfl)
theorem good15 (n : Int) : goodK 112 3 n 15 = true := by kernel_rfl
theorem letter15 : Letter 15 := ⟨112, 3, check15, of15, good15⟩
end Go.Proofs.YtclcobiaiedpbaaDoor.metaErrors
