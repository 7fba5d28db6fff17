import Derived.Test.YtmdfamnnnoieaaaDoorPkH
import Derived.Test.YtmdfamnnnoieaaaDoorChecked
import Derived.KernelRfl
/- Closed facts on the types and functions of the loaded program, each by the kernel. Written by a program (gen.py). -/
namespace Go.Proofs.YtmdfamnnnoieaaaDoor
open Go
set_option maxRecDepth 100000

theorem ty3 : tyOK Tryd.prog 3 false 1 = true := by kernel_rfl
theorem zo3 : ZeroIs Tryd.prog 3 [.int .i64 0] := by unfold ZeroIs; kernel_rfl
theorem ty4 : tyOK Tryd.prog 4 false 1 = true := by kernel_rfl
theorem ty5 : tyOK Tryd.prog 5 false 1 = true := by kernel_rfl
theorem zo5 : ZeroIs Tryd.prog 5 [.int .u8 0] := by unfold ZeroIs; kernel_rfl
theorem by5 : (Tryd.prog.info? 5).map (·.bytes) = some 1 := by kernel_rfl
theorem ty9 : tyOK Tryd.prog 9 false 1 = true := by kernel_rfl
theorem kd9 : kindOK Tryd.prog 9 = true := by kernel_rfl
theorem ty22 : tyOK Tryd.prog 22 false 1 = true := by kernel_rfl
theorem el22 : elemOK Tryd.prog 22 33 = true := by kernel_rfl
theorem so22 : sliceOf Tryd.prog 22 49 33 = true := by kernel_rfl
theorem ap22 : appOK Tryd.prog 22 33 56 = true := by kernel_rfl
theorem kd22 : kindOK Tryd.prog 22 = true := by kernel_rfl
theorem ty24 : tyOK Tryd.prog 24 true 1 = true := by kernel_rfl
theorem zo24 : ZeroIs Tryd.prog 24 [.slice none 0 0] := by unfold ZeroIs; kernel_rfl
theorem fl24_0 : fieldOK Tryd.prog 24 0 0 = true := by kernel_rfl
theorem ty25 : tyOK Tryd.prog 25 false 1 = true := by kernel_rfl
theorem el25 : elemOK Tryd.prog 25 1 = true := by kernel_rfl
theorem so25 : sliceOf Tryd.prog 25 3 1 = true := by kernel_rfl
theorem ap25 : appOK Tryd.prog 25 1 8 = true := by kernel_rfl
theorem kd25 : kindOK Tryd.prog 25 = true := by kernel_rfl
theorem ty27 : tyOK Tryd.prog 27 true 32 = true := by kernel_rfl
theorem zo27 : ZeroIs Tryd.prog 27 [.int .u8 0, .int .u8 0, .int .u8 0, .int .u8 0, .int .u8 0, .int .u8 0, .int .u8 0, .int .u8 0, .int .u8 0, .int .u8 0, .int .u8 0, .int .u8 0, .int .u8 0, .int .u8 0, .int .u8 0, .int .u8 0, .int .u8 0, .int .u8 0, .int .u8 0, .int .u8 0, .int .u8 0, .int .u8 0, .int .u8 0, .int .u8 0, .int .u8 0, .int .u8 0, .int .u8 0, .int .u8 0, .int .u8 0, .int .u8 0, .int .u8 0, .int .u8 0] := by unfold ZeroIs; kernel_rfl
theorem ar27 : arrOK Tryd.prog 27 32 false 1 = true := by kernel_rfl
theorem ba27 : byteArr Tryd.prog 27 32 = true := by kernel_rfl
theorem ty30 : tyOK Tryd.prog 30 false 1 = true := by kernel_rfl
theorem zo30 : ZeroIs Tryd.prog 30 [.int .i64 0] := by unfold ZeroIs; kernel_rfl
theorem el41 : elemOK Tryd.prog 41 32 = true := by kernel_rfl
theorem so41 : sliceOf Tryd.prog 41 27 32 = true := by kernel_rfl
theorem ap41 : appOK Tryd.prog 41 32 32 = true := by kernel_rfl
theorem kd41 : kindOK Tryd.prog 41 = true := by kernel_rfl
theorem el46 : elemOK Tryd.prog 46 1 = true := by kernel_rfl
theorem ty49 : tyOK Tryd.prog 49 true 33 = true := by kernel_rfl
theorem zo49 : ZeroIs Tryd.prog 49 [.int .u8 0, .int .u8 0, .int .u8 0, .int .u8 0, .int .u8 0, .int .u8 0, .int .u8 0, .int .u8 0, .int .u8 0, .int .u8 0, .int .u8 0, .int .u8 0, .int .u8 0, .int .u8 0, .int .u8 0, .int .u8 0, .int .u8 0, .int .u8 0, .int .u8 0, .int .u8 0, .int .u8 0, .int .u8 0, .int .u8 0, .int .u8 0, .int .u8 0, .int .u8 0, .int .u8 0, .int .u8 0, .int .u8 0, .int .u8 0, .int .u8 0, .int .u8 0, .slice none 0 0] := by unfold ZeroIs; kernel_rfl
theorem fl49_0 : fieldOK Tryd.prog 49 0 0 = true := by kernel_rfl
theorem fl49_1 : fieldOK Tryd.prog 49 1 32 = true := by kernel_rfl
theorem ty51 : tyOK Tryd.prog 51 false 1 = true := by kernel_rfl
theorem el51 : elemOK Tryd.prog 51 4 = true := by kernel_rfl
theorem so51 : sliceOf Tryd.prog 51 53 4 = true := by kernel_rfl
theorem ap51 : appOK Tryd.prog 51 4 56 = true := by kernel_rfl
theorem kd51 : kindOK Tryd.prog 51 = true := by kernel_rfl
theorem ty53 : tyOK Tryd.prog 53 true 4 = true := by kernel_rfl
theorem zo53 : ZeroIs Tryd.prog 53 [.int .i64 0, .int .i64 0, .string ⟨#[]⟩, .slice none 0 0] := by unfold ZeroIs; kernel_rfl
theorem by53 : (Tryd.prog.info? 53).map (·.bytes) = some 56 := by kernel_rfl
theorem fl53_0 : fieldOK Tryd.prog 53 0 0 = true := by kernel_rfl
theorem fl53_1 : fieldOK Tryd.prog 53 1 1 = true := by kernel_rfl
theorem fl53_2 : fieldOK Tryd.prog 53 2 2 = true := by kernel_rfl
theorem fl53_3 : fieldOK Tryd.prog 53 3 3 = true := by kernel_rfl
theorem ty54 : tyOK Tryd.prog 54 false 1 = true := by kernel_rfl
theorem zo54 : ZeroIs Tryd.prog 54 [.slice none 0 0] := by unfold ZeroIs; kernel_rfl
theorem el54 : elemOK Tryd.prog 54 1 = true := by kernel_rfl
theorem so54 : sliceOf Tryd.prog 54 5 1 = true := by kernel_rfl
theorem bs54 : byteSl Tryd.prog 54 = true := by kernel_rfl
theorem ap54 : appOK Tryd.prog 54 1 1 = true := by kernel_rfl
theorem kd54 : kindOK Tryd.prog 54 = true := by kernel_rfl
theorem ty75 : tyOK Tryd.prog 75 false 1 = true := by kernel_rfl
theorem ty77 : tyOK Tryd.prog 77 true 1 = true := by kernel_rfl
theorem fl77_0 : fieldOK Tryd.prog 77 0 0 = true := by kernel_rfl
theorem ty78 : tyOK Tryd.prog 78 false 1 = true := by kernel_rfl
theorem zo78 : ZeroIs Tryd.prog 78 [.pointer none] := by unfold ZeroIs; kernel_rfl
theorem ty83 : tyOK Tryd.prog 83 false 1 = true := by kernel_rfl
theorem zo89 : ZeroIs Tryd.prog 89 [.nilFunc, .nilFunc, .nilFunc, .nilFunc] := by unfold ZeroIs; kernel_rfl
theorem ar89 : arrOK Tryd.prog 89 4 true 1 = true := by kernel_rfl
theorem ty93 : tyOK Tryd.prog 93 false 1 = true := by kernel_rfl
theorem ty94 : tyOK Tryd.prog 94 true 8 = true := by kernel_rfl
theorem zo94 : ZeroIs Tryd.prog 94 [.int .u32 0, .int .u32 0, .int .u32 0, .int .u32 0, .int .u32 0, .int .u32 0, .int .u32 0, .int .u32 0] := by unfold ZeroIs; kernel_rfl
theorem ar94 : arrOK Tryd.prog 94 8 false 1 = true := by kernel_rfl
theorem ty95 : tyOK Tryd.prog 95 true 8 = true := by kernel_rfl
theorem zo95 : ZeroIs Tryd.prog 95 [.int .u32 0, .int .u32 0, .int .u32 0, .int .u32 0, .int .u32 0, .int .u32 0, .int .u32 0, .int .u32 0] := by unfold ZeroIs; kernel_rfl
theorem ar95 : arrOK Tryd.prog 95 8 false 1 = true := by kernel_rfl
theorem el98 : elemOK Tryd.prog 98 1 = true := by kernel_rfl
theorem so98 : sliceOf Tryd.prog 98 54 1 = true := by kernel_rfl
theorem ty103 : tyOK Tryd.prog 103 true 4 = true := by kernel_rfl
theorem zo103 : ZeroIs Tryd.prog 103 [.bool false, .bool false, .bool false, .bool false] := by unfold ZeroIs; kernel_rfl
theorem ar103 : arrOK Tryd.prog 103 4 false 1 = true := by kernel_rfl
theorem ty106 : tyOK Tryd.prog 106 true 64 = true := by kernel_rfl
theorem zo106 : ZeroIs Tryd.prog 106 [.int .u32 0, .int .u32 0, .int .u32 0, .int .u32 0, .int .u32 0, .int .u32 0, .int .u32 0, .int .u32 0, .int .u32 0, .int .u32 0, .int .u32 0, .int .u32 0, .int .u32 0, .int .u32 0, .int .u32 0, .int .u32 0, .int .u32 0, .int .u32 0, .int .u32 0, .int .u32 0, .int .u32 0, .int .u32 0, .int .u32 0, .int .u32 0, .int .u32 0, .int .u32 0, .int .u32 0, .int .u32 0, .int .u32 0, .int .u32 0, .int .u32 0, .int .u32 0, .int .u32 0, .int .u32 0, .int .u32 0, .int .u32 0, .int .u32 0, .int .u32 0, .int .u32 0, .int .u32 0, .int .u32 0, .int .u32 0, .int .u32 0, .int .u32 0, .int .u32 0, .int .u32 0, .int .u32 0, .int .u32 0, .int .u32 0, .int .u32 0, .int .u32 0, .int .u32 0, .int .u32 0, .int .u32 0, .int .u32 0, .int .u32 0, .int .u32 0, .int .u32 0, .int .u32 0, .int .u32 0, .int .u32 0, .int .u32 0, .int .u32 0, .int .u32 0] := by unfold ZeroIs; kernel_rfl
theorem ar106 : arrOK Tryd.prog 106 64 false 1 = true := by kernel_rfl
theorem so110 : sliceOf Tryd.prog 110 93 1 = true := by kernel_rfl
theorem pl24 : PlacesAre Tryd.prog 24 ((#[(0, 1)] : Array (Nat × Nat))[·]?) := .inl ⟨_, _, Tryd.underlying24, fun w => by kernel_rfl, rfl⟩
theorem pl27 : PlacesAre Tryd.prog 27 (fun i => some (i * 1, 1)) := .inr ⟨_, _, _, Tryd.underlying27, fun w => tyOK_sizeOf ty5 w, rfl⟩
theorem pl49 : PlacesAre Tryd.prog 49 ((#[(0, 32), (32, 1)] : Array (Nat × Nat))[·]?) := .inl ⟨_, _, Tryd.underlying49, fun w => by kernel_rfl, rfl⟩
theorem pl53 : PlacesAre Tryd.prog 53 ((#[(0, 1), (1, 1), (2, 1), (3, 1)] : Array (Nat × Nat))[·]?) := .inl ⟨_, _, Tryd.underlying53, fun w => by kernel_rfl, rfl⟩
theorem pl89 : PlacesAre Tryd.prog 89 (fun i => some (i * 1, 1)) := .inr ⟨_, _, _, Tryd.underlying89, fun w => tyOK_sizeOf ty77 w, rfl⟩
theorem pl94 : PlacesAre Tryd.prog 94 (fun i => some (i * 1, 1)) := .inr ⟨_, _, _, Tryd.underlying94, fun w => tyOK_sizeOf ty93 w, rfl⟩
theorem pl103 : PlacesAre Tryd.prog 103 (fun i => some (i * 1, 1)) := .inr ⟨_, _, _, Tryd.underlying103, fun w => tyOK_sizeOf ty4 w, rfl⟩
theorem pl106 : PlacesAre Tryd.prog 106 (fun i => some (i * 1, 1)) := .inr ⟨_, _, _, Tryd.underlying106, fun w => tyOK_sizeOf ty93 w, rfl⟩
theorem en9 : enterOK Tryd.prog 9 = true := by kernel_rfl
theorem en10 : enterOK Tryd.prog 10 = true := by kernel_rfl
theorem en11 : enterOK Tryd.prog 11 = true := by kernel_rfl
theorem en12 : enterOK Tryd.prog 12 = true := by kernel_rfl
theorem en13 : enterOK Tryd.prog 13 = true := by kernel_rfl
theorem en14 : enterOK Tryd.prog 14 = true := by kernel_rfl
theorem en15 : enterOK Tryd.prog 15 = true := by kernel_rfl
theorem en16 : enterOK Tryd.prog 16 = true := by kernel_rfl
theorem en17 : enterOK Tryd.prog 17 = true := by kernel_rfl
theorem en18 : enterOK Tryd.prog 18 = true := by kernel_rfl
theorem en19 : enterOK Tryd.prog 19 = true := by kernel_rfl
theorem en20 : enterOK Tryd.prog 20 = true := by kernel_rfl
theorem en21 : enterOK Tryd.prog 21 = true := by kernel_rfl
theorem en22 : enterOK Tryd.prog 22 = true := by kernel_rfl
theorem en23 : enterOK Tryd.prog 23 = true := by kernel_rfl
theorem en24 : enterOK Tryd.prog 24 = true := by kernel_rfl
theorem en25 : enterOK Tryd.prog 25 = true := by kernel_rfl
theorem en26 : enterOK Tryd.prog 26 = true := by kernel_rfl
theorem en27 : enterOK Tryd.prog 27 = true := by kernel_rfl
theorem en28 : enterOK Tryd.prog 28 = true := by kernel_rfl
theorem en29 : enterOK Tryd.prog 29 = true := by kernel_rfl
theorem en30 : enterOK Tryd.prog 30 = true := by kernel_rfl
theorem en31 : enterOK Tryd.prog 31 = true := by kernel_rfl
theorem en32 : enterOK Tryd.prog 32 = true := by kernel_rfl
theorem en33 : enterOK Tryd.prog 33 = true := by kernel_rfl
theorem en34 : enterOK Tryd.prog 34 = true := by kernel_rfl
theorem en35 : enterOK Tryd.prog 35 = true := by kernel_rfl
theorem en36 : enterOK Tryd.prog 36 = true := by kernel_rfl
theorem en37 : enterOK Tryd.prog 37 = true := by kernel_rfl
theorem en38 : enterOK Tryd.prog 38 = true := by kernel_rfl
theorem en39 : enterOK Tryd.prog 39 = true := by kernel_rfl
theorem en40 : enterOK Tryd.prog 40 = true := by kernel_rfl
theorem en41 : enterOK Tryd.prog 41 = true := by kernel_rfl
theorem en42 : enterOK Tryd.prog 42 = true := by kernel_rfl
theorem en43 : enterOK Tryd.prog 43 = true := by kernel_rfl
theorem en44 : enterOK Tryd.prog 44 = true := by kernel_rfl
theorem en45 : enterOK Tryd.prog 45 = true := by kernel_rfl
theorem en46 : enterOK Tryd.prog 46 = true := by kernel_rfl
theorem en47 : enterOK Tryd.prog 47 = true := by kernel_rfl
theorem en48 : enterOK Tryd.prog 48 = true := by kernel_rfl
theorem en49 : enterOK Tryd.prog 49 = true := by kernel_rfl
theorem en50 : enterOK Tryd.prog 50 = true := by kernel_rfl
theorem en51 : enterOK Tryd.prog 51 = true := by kernel_rfl
theorem en52 : enterOK Tryd.prog 52 = true := by kernel_rfl
theorem en53 : enterOK Tryd.prog 53 = true := by kernel_rfl
theorem en54 : enterOK Tryd.prog 54 = true := by kernel_rfl
theorem en55 : enterOK Tryd.prog 55 = true := by kernel_rfl
theorem en56 : enterOK Tryd.prog 56 = true := by kernel_rfl
theorem en57 : enterOK Tryd.prog 57 = true := by kernel_rfl
theorem en58 : enterOK Tryd.prog 58 = true := by kernel_rfl
theorem en59 : enterOK Tryd.prog 59 = true := by kernel_rfl
theorem en60 : enterOK Tryd.prog 60 = true := by kernel_rfl
theorem en61 : enterOK Tryd.prog 61 = true := by kernel_rfl
theorem en62 : enterOK Tryd.prog 62 = true := by kernel_rfl
theorem en64 : enterOK Tryd.prog 64 = true := by kernel_rfl
theorem en65 : enterOK Tryd.prog 65 = true := by kernel_rfl
theorem en66 : enterOK Tryd.prog 66 = true := by kernel_rfl
theorem en67 : enterOK Tryd.prog 67 = true := by kernel_rfl
theorem en68 : enterOK Tryd.prog 68 = true := by kernel_rfl
theorem en69 : enterOK Tryd.prog 69 = true := by kernel_rfl
theorem en70 : enterOK Tryd.prog 70 = true := by kernel_rfl
theorem en71 : enterOK Tryd.prog 71 = true := by kernel_rfl
theorem en72 : enterOK Tryd.prog 72 = true := by kernel_rfl
theorem en73 : enterOK Tryd.prog 73 = true := by kernel_rfl
theorem en74 : enterOK Tryd.prog 74 = true := by kernel_rfl
theorem en75 : enterOK Tryd.prog 75 = true := by kernel_rfl
theorem mixed : Tryd.prog.follows .mixedOrders = true := by kernel_rfl

end Go.Proofs.YtmdfamnnnoieaaaDoor
