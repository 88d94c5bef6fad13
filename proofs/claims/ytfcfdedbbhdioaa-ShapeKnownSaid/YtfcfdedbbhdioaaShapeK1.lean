/- shape.Others of the chapter's words: what it gives. -/
import Derived.Test.YtfcfdedbbhdioaaShapeK0
namespace Go.Proofs.Ytfcfdedbbhdioaa.AI
open Go
set_option linter.unusedVariables false
set_option maxRecDepth 100000

noncomputable def wordsA : AV := .fsl 2 1 [.avs [.c (.string ⟨#[97, 98]⟩), .c (.string ⟨#[104, 116, 116, 112]⟩)]]
noncomputable def othersM : AV := (.agg [.avs [(.fsl 14 5 [.ints .u64 4 [288063250384289792, 576460743847706622, 0, 0], .ints .u8 1 [0], .ints .u64 4 [0, 8589934594, 0, 0], .ints .u8 1 [0], .ints .u64 4 [0, 17179869188, 0, 0], .ints .u8 1 [0], .ints .u64 4 [0, 1099511628032, 0, 0], .ints .u8 1 [0], .ints .u64 4 [0, 4503599628419072, 0, 0], .ints .u8 1 [0], .ints .u64 4 [0, 4503599628419072, 0, 0], .ints .u8 1 [0], .ints .u64 4 [0, 281474976776192, 0, 0], .ints .u8 1 [0], .ints .u64 4 [0, 576459635746143996, 0, 0], .ints .u8 1 [0], .ints .u64 4 [288063250384289792, 576460726667837434, 0, 0], .ints .u8 1 [0], .ints .u64 4 [288063250384289792, 576460743847706622, 0, 0], .ints .u8 1 [0], .ints .u64 4 [288063250384289792, 571957144219287550, 0, 0], .ints .u8 1 [0], .ints .u64 4 [288063250384289792, 571957144219287550, 0, 0], .ints .u8 1 [0], .ints .u64 4 [288063250384289792, 576179268870930430, 0, 0], .ints .u8 1 [0], .ints .u64 4 [288063250384289792, 576460743847706622, 0, 0], .ints .u8 1 [0]]), (.fsl 3 1 [.ints .i64 3 [1, 3, 7]]), (.fsl 14 1 [.avs [(.fsl 1 1 [.ints .i64 1 [0]]), (.fsl 2 1 [.ints .i64 2 [2, 8]]), (.fsl 1 1 [.ints .i64 1 [9]]), (.fsl 2 1 [.ints .i64 2 [4, 10]]), (.fsl 2 1 [.ints .i64 2 [5, 11]]), (.fsl 2 1 [.ints .i64 2 [6, 12]]), (.fsl 1 1 [.ints .i64 1 [13]]), (.fsl 1 1 [.ints .i64 1 [0]]), (.fsl 1 1 [.ints .i64 1 [0]]), (.fsl 1 1 [.ints .i64 1 [0]]), (.fsl 1 1 [.ints .i64 1 [0]]), (.fsl 1 1 [.ints .i64 1 [0]]), (.fsl 1 1 [.ints .i64 1 [0]]), (.fsl 1 1 [.ints .i64 1 [0]])]]), (.fsl 14 1 [.bools 14 [true, true, false, true, true, true, false, true, true, true, true, true, true, true]])], .bools 1 [false]])

theorem others_run : runCall CS0 3000 46 [wordsA] [] = .ok (.ret othersM []) := by kernel_rfl

theorem others_ok (rows : List Row) : CallOK Try.prog [] 46 [wordsA] rows (.ret othersM rows) := call_beside (call_holds ((run_sound CS0_ok 3000).2 46 [wordsA] [] _ others_run)) rfl rfl rows

end Go.Proofs.Ytfcfdedbbhdioaa.AI
