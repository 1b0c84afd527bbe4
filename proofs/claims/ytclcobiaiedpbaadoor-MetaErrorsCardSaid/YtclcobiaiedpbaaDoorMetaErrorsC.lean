/- MetaErrors' run behind that part, for four letters. -/
import Derived.Test.YtclcobiaiedpbaaDoorMetaErrorsA
namespace Go.Proofs.YtclcobiaiedpbaaDoor.metaErrors
open Go Go.Ab
set_option maxRecDepth 100000
theorem check4 : MemoOk Tryd.prog (checkM 101) := memo_of_quick (quickB_sound noneK_sound 40) rfl rfl (by kernel_rfl)
theorem of4 : MemoOk Tryd.prog (ofM [118] [99, 101] 8) := memo_of_quick (quickB_sound noneK_sound 40) rfl rfl (by kernel_rfl)
theorem good4 (n : Int) : goodK 101 8 n 4 = true := by kernel_rfl
theorem letter4 : Letter 4 := ⟨101, 8, check4, of4, good4⟩
theorem check5 : MemoOk Tryd.prog (checkM 102) := memo_of_quick (quickB_sound noneK_sound 40) rfl rfl (by kernel_rfl)
theorem of5 : MemoOk Tryd.prog (ofM [118] [99, 102] 13) := memo_of_quick (quickB_sound noneK_sound 40) rfl rfl (by kernel_rfl)
theorem good5 (n : Int) : goodK 102 13 n 5 = true := by kernel_rfl
theorem letter5 : Letter 5 := ⟨102, 13, check5, of5, good5⟩
theorem check6 : MemoOk Tryd.prog (checkM 103) := memo_of_quick (quickB_sound noneK_sound 40) rfl rfl (by kernel_rfl)
theorem of6 : MemoOk Tryd.prog (ofM [118] [99, 103] 4) := memo_of_quick (quickB_sound noneK_sound 40) rfl rfl (by kernel_rfl)
theorem good6 (n : Int) : goodK 103 4 n 6 = true := by kernel_rfl
theorem letter6 : Letter 6 := ⟨103, 4, check6, of6, good6⟩
theorem check7 : MemoOk Tryd.prog (checkM 104) := memo_of_quick (quickB_sound noneK_sound 40) rfl rfl (by kernel_rfl)
theorem of7 : MemoOk Tryd.prog (ofM [118] [99, 104] 13) := memo_of_quick (quickB_sound noneK_sound 40) rfl rfl (by kernel_rfl)
theorem good7 (n : Int) : goodK 104 13 n 7 = true := by kernel_rfl
theorem letter7 : Letter 7 := ⟨104, 13, check7, of7, good7⟩
end Go.Proofs.YtclcobiaiedpbaaDoor.metaErrors
