/- The law: VTextsCard: one part of its proof (joined by program out of my own texts). No condition. -/
import Derived.Test.YtngfnokbdcjoeaaGreatDoorVatBA
import Derived.Test.YtngfnokbdcjoeaaGreatDoorRows
import Derived.Test.YtngfnokbdcjoeaaGreatDoorChecked
section
namespace Go.Proofs.YtngfnokbdcjoeaaGreatDoor.valueTexts
open Go
theorem jf0 : JF0 (OpenSpec.bare (OpenSpec.ofChange Rows.valueTextsSpec)) Rows.valueTextsRow = true := by kernel_rfl
theorem jf1 : JF1 Tryz.prog = true := by kernel_rfl
theorem jf2 : JF2 Tryz.prog = true := by kernel_rfl
theorem jf3 : JF3 Tryz.prog Tryz.f7 = true := by kernel_rfl
theorem jf4 : JF4 Tryz.prog (OpenSpec.bare (OpenSpec.ofChange Rows.valueTextsSpec)) Rows.valueTextsRow = true := by kernel_rfl
theorem jf5 : JF5 Rows.valueTextsRow = true := by kernel_rfl
theorem jf6 : JF6 Tryz.prog = true := by kernel_rfl
theorem jf7 : JF7 Rows.valueTextsRow = true := by kernel_rfl
theorem jf8 : JF8 Tryz.prog = true := by kernel_rfl
theorem jf9 : JF9 Tryz.prog 7 Rows.valueTextsRow = true := by kernel_rfl
theorem jf10 : JF10 Tryz.prog 7 Rows.valueTextsRow = true := by kernel_rfl
theorem jf11 : JF11 Tryz.prog 7 Rows.valueTextsRow = true := by kernel_rfl
theorem jf12 : JF12 Tryz.prog 7 Rows.valueTextsRow = true := by kernel_rfl
theorem jf13 : JF13 Tryz.prog Tryz.f7 (OpenSpec.bare (OpenSpec.ofChange Rows.valueTextsSpec)) Rows.valueTextsRow = true := by kernel_rfl
theorem jf14 : JF14 Tryz.prog Tryz.f7 (OpenSpec.bare (OpenSpec.ofChange Rows.valueTextsSpec)) Rows.valueTextsRow = true := by kernel_rfl
theorem jf15 : JF15 Tryz.prog Tryz.f7 Rows.valueTextsRow = true := by kernel_rfl
theorem jf16 : JF16 Tryz.prog Tryz.f7 (OpenSpec.bare (OpenSpec.ofChange Rows.valueTextsSpec)) Rows.valueTextsRow = true := by kernel_rfl
theorem jf17 : JF17 Tryz.prog Tryz.f7 (OpenSpec.bare (OpenSpec.ofChange Rows.valueTextsSpec)) Rows.valueTextsRow = true := by kernel_rfl
theorem jf18 : JF18 Tryz.prog (OpenSpec.bare (OpenSpec.ofChange Rows.valueTextsSpec)) = true := by kernel_rfl
theorem jf19 : JF19 Tryz.prog Tryz.f7 = true := by kernel_rfl
theorem jf20 : JF20 Tryz.prog Tryz.f7 Rows.valueTextsRow = true := by kernel_rfl
theorem jf21 : JF21 Tryz.prog Tryz.f7 Rows.valueTextsRow = true := by kernel_rfl
theorem jf22 : JF22 Tryz.prog Rows.valueTextsRow = true := by kernel_rfl
theorem jf23 : JF23 Rows.valueTextsRow = true := by kernel_rfl
theorem jf24 : JF24 Tryz.prog = true := by kernel_rfl
theorem jf25 : JF25 Tryz.prog = true := by kernel_rfl
theorem jf26 : JF26 Tryz.prog Rows.valueTextsRow = true := by kernel_rfl
theorem jf27 : JF27 Tryz.prog Rows.valueTextsRow = true := by kernel_rfl
theorem jf28 : JF28 Tryz.prog Tryz.f7 Rows.valueTextsRow = true := by kernel_rfl
theorem jf29 : JF29 Rows.valueTextsRow = true := by kernel_rfl
theorem jf30 : JF30 Tryz.prog Tryz.f7 (OpenSpec.bare (OpenSpec.ofChange Rows.valueTextsSpec)) Rows.valueTextsRow = true := by kernel_rfl
theorem jf31 : JF31 Tryz.prog Tryz.f7 (OpenSpec.bare (OpenSpec.ofChange Rows.valueTextsSpec)) Rows.valueTextsRow = true := by kernel_rfl
theorem closed : joinedFacts Tryz.checked.prog 7 Tryz.f7 (OpenSpec.bare (OpenSpec.ofChange Rows.valueTextsSpec)) Rows.valueTextsRow = true := joined_of jf0 jf1 jf2 jf3 jf4 jf5 jf6 jf7 jf8 jf9 jf10 jf11 jf12 jf13 jf14 jf15 jf16 jf17 jf18 jf19 jf20 jf21 jf22 jf23 jf24 jf25 jf26 jf27 jf28 jf29 jf30 jf31
end Go.Proofs.YtngfnokbdcjoeaaGreatDoor.valueTexts
end
