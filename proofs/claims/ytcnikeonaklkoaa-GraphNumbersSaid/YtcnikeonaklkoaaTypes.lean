/- Closed facts on the types and functions of the loaded program, each by the kernel. Written by a program (gen.py). -/
import Derived.Test.YtcnikeonaklkoaaLits
import Derived.Test.YtcnikeonaklkoaaChecked
import Derived.KernelRfl
namespace Go.Proofs.Ytcnikeonaklkoaa
open Go
set_option maxRecDepth 100000

theorem ty1 : tyOK Try.prog 1 false 1 = true := by kernel_rfl
theorem zo1 : ZeroIs Try.prog 1 [.nilFunc] := by unfold ZeroIs; kernel_rfl
theorem by1 : (Try.prog.info? 1).map (·.bytes) = some 8 := by kernel_rfl
theorem ty2 : tyOK Try.prog 2 false 1 = true := by kernel_rfl
theorem zo2 : ZeroIs Try.prog 2 [.int .i64 0] := by unfold ZeroIs; kernel_rfl
theorem by2 : (Try.prog.info? 2).map (·.bytes) = some 8 := by kernel_rfl
theorem ty3 : tyOK Try.prog 3 false 1 = true := by kernel_rfl
theorem zo3 : ZeroIs Try.prog 3 [.int .i64 0] := by unfold ZeroIs; kernel_rfl
theorem by3 : (Try.prog.info? 3).map (·.bytes) = some 8 := by kernel_rfl
theorem ty4 : tyOK Try.prog 4 false 1 = true := by kernel_rfl
theorem zo4 : ZeroIs Try.prog 4 [.bool false] := by unfold ZeroIs; kernel_rfl
theorem by4 : (Try.prog.info? 4).map (·.bytes) = some 1 := by kernel_rfl
theorem ty5 : tyOK Try.prog 5 false 1 = true := by kernel_rfl
theorem zo5 : ZeroIs Try.prog 5 [.int .u8 0] := by unfold ZeroIs; kernel_rfl
theorem by5 : (Try.prog.info? 5).map (·.bytes) = some 1 := by kernel_rfl
theorem ty6 : tyOK Try.prog 6 false 1 = true := by kernel_rfl
theorem zo6 : ZeroIs Try.prog 6 [.int .u8 0] := by unfold ZeroIs; kernel_rfl
theorem by6 : (Try.prog.info? 6).map (·.bytes) = some 1 := by kernel_rfl
theorem ty7 : tyOK Try.prog 7 true 4 = true := by kernel_rfl
theorem zo7 : ZeroIs Try.prog 7 [.int .i64 0, .int .i64 0, .bool false, .int .u8 0] := by unfold ZeroIs; kernel_rfl
theorem by7 : (Try.prog.info? 7).map (·.bytes) = some 24 := by kernel_rfl
theorem fl7_0 : fieldOK Try.prog 7 0 0 = true := by kernel_rfl
theorem pt7_0 : partOK Try.prog 7 0 0 false 1 = true := by kernel_rfl
theorem fl7_1 : fieldOK Try.prog 7 1 1 = true := by kernel_rfl
theorem pt7_1 : partOK Try.prog 7 1 1 false 1 = true := by kernel_rfl
theorem fl7_2 : fieldOK Try.prog 7 2 2 = true := by kernel_rfl
theorem pt7_2 : partOK Try.prog 7 2 2 false 1 = true := by kernel_rfl
theorem fl7_3 : fieldOK Try.prog 7 3 3 = true := by kernel_rfl
theorem pt7_3 : partOK Try.prog 7 3 3 false 1 = true := by kernel_rfl
theorem ty8 : tyOK Try.prog 8 true 4 = true := by kernel_rfl
theorem zo8 : ZeroIs Try.prog 8 [.int .i64 0, .int .i64 0, .bool false, .int .u8 0] := by unfold ZeroIs; kernel_rfl
theorem by8 : (Try.prog.info? 8).map (·.bytes) = some 24 := by kernel_rfl
theorem fl8_0 : fieldOK Try.prog 8 0 0 = true := by kernel_rfl
theorem pt8_0 : partOK Try.prog 8 0 0 false 1 = true := by kernel_rfl
theorem fl8_1 : fieldOK Try.prog 8 1 1 = true := by kernel_rfl
theorem pt8_1 : partOK Try.prog 8 1 1 false 1 = true := by kernel_rfl
theorem fl8_2 : fieldOK Try.prog 8 2 2 = true := by kernel_rfl
theorem pt8_2 : partOK Try.prog 8 2 2 false 1 = true := by kernel_rfl
theorem fl8_3 : fieldOK Try.prog 8 3 3 = true := by kernel_rfl
theorem pt8_3 : partOK Try.prog 8 3 3 false 1 = true := by kernel_rfl
theorem ty9 : tyOK Try.prog 9 false 1 = true := by kernel_rfl
theorem zo9 : ZeroIs Try.prog 9 [.string ⟨#[]⟩] := by unfold ZeroIs; kernel_rfl
theorem by9 : (Try.prog.info? 9).map (·.bytes) = some 16 := by kernel_rfl
theorem kd9 : kindOK Try.prog 9 = true := by kernel_rfl
theorem ty10 : tyOK Try.prog 10 false 1 = true := by kernel_rfl
theorem zo10 : ZeroIs Try.prog 10 [.string ⟨#[]⟩] := by unfold ZeroIs; kernel_rfl
theorem by10 : (Try.prog.info? 10).map (·.bytes) = some 16 := by kernel_rfl
theorem kd10 : kindOK Try.prog 10 = true := by kernel_rfl
theorem ty11 : tyOK Try.prog 11 false 1 = true := by kernel_rfl
theorem zo11 : ZeroIs Try.prog 11 [.string ⟨#[]⟩] := by unfold ZeroIs; kernel_rfl
theorem by11 : (Try.prog.info? 11).map (·.bytes) = some 16 := by kernel_rfl
theorem kd11 : kindOK Try.prog 11 = true := by kernel_rfl
theorem ty12 : tyOK Try.prog 12 false 1 = true := by kernel_rfl
theorem zo12 : ZeroIs Try.prog 12 [.int .u64 0] := by unfold ZeroIs; kernel_rfl
theorem by12 : (Try.prog.info? 12).map (·.bytes) = some 8 := by kernel_rfl
theorem ty13 : tyOK Try.prog 13 true 2 = true := by kernel_rfl
theorem zo13 : ZeroIs Try.prog 13 [.string ⟨#[]⟩, .int .u64 0] := by unfold ZeroIs; kernel_rfl
theorem by13 : (Try.prog.info? 13).map (·.bytes) = some 24 := by kernel_rfl
theorem fl13_0 : fieldOK Try.prog 13 0 0 = true := by kernel_rfl
theorem pt13_0 : partOK Try.prog 13 0 0 false 1 = true := by kernel_rfl
theorem fl13_1 : fieldOK Try.prog 13 1 1 = true := by kernel_rfl
theorem pt13_1 : partOK Try.prog 13 1 1 false 1 = true := by kernel_rfl
theorem ty14 : tyOK Try.prog 14 true 2 = true := by kernel_rfl
theorem zo14 : ZeroIs Try.prog 14 [.string ⟨#[]⟩, .int .u64 0] := by unfold ZeroIs; kernel_rfl
theorem by14 : (Try.prog.info? 14).map (·.bytes) = some 24 := by kernel_rfl
theorem fl14_0 : fieldOK Try.prog 14 0 0 = true := by kernel_rfl
theorem pt14_0 : partOK Try.prog 14 0 0 false 1 = true := by kernel_rfl
theorem fl14_1 : fieldOK Try.prog 14 1 1 = true := by kernel_rfl
theorem pt14_1 : partOK Try.prog 14 1 1 false 1 = true := by kernel_rfl
theorem ty15 : tyOK Try.prog 15 false 1 = true := by kernel_rfl
theorem zo15 : ZeroIs Try.prog 15 [.pointer none] := by unfold ZeroIs; kernel_rfl
theorem by15 : (Try.prog.info? 15).map (·.bytes) = some 8 := by kernel_rfl
theorem ty16 : tyOK Try.prog 16 false 1 = true := by kernel_rfl
theorem zo16 : ZeroIs Try.prog 16 [.pointer none] := by unfold ZeroIs; kernel_rfl
theorem by16 : (Try.prog.info? 16).map (·.bytes) = some 8 := by kernel_rfl
theorem ty17 : tyOK Try.prog 17 false 1 = true := by kernel_rfl
theorem zo17 : ZeroIs Try.prog 17 [.pointer none] := by unfold ZeroIs; kernel_rfl
theorem by17 : (Try.prog.info? 17).map (·.bytes) = some 8 := by kernel_rfl
theorem ty18 : tyOK Try.prog 18 true 1 = true := by kernel_rfl
theorem zo18 : ZeroIs Try.prog 18 [.pointer none] := by unfold ZeroIs; kernel_rfl
theorem by18 : (Try.prog.info? 18).map (·.bytes) = some 8 := by kernel_rfl
theorem fl18_0 : fieldOK Try.prog 18 0 0 = true := by kernel_rfl
theorem pt18_0 : partOK Try.prog 18 0 0 false 1 = true := by kernel_rfl
theorem ty19 : tyOK Try.prog 19 true 1 = true := by kernel_rfl
theorem zo19 : ZeroIs Try.prog 19 [.pointer none] := by unfold ZeroIs; kernel_rfl
theorem by19 : (Try.prog.info? 19).map (·.bytes) = some 8 := by kernel_rfl
theorem fl19_0 : fieldOK Try.prog 19 0 0 = true := by kernel_rfl
theorem pt19_0 : partOK Try.prog 19 0 0 false 1 = true := by kernel_rfl
theorem ty20 : tyOK Try.prog 20 false 1 = true := by kernel_rfl
theorem zo20 : ZeroIs Try.prog 20 [.nilIface] := by unfold ZeroIs; kernel_rfl
theorem by20 : (Try.prog.info? 20).map (·.bytes) = some 16 := by kernel_rfl
theorem ni20 : Try.prog.underlying 20 = some (.interface (Try.prog.methodsAt 20)) := by kernel_rfl
theorem ty21 : tyOK Try.prog 21 false 1 = true := by kernel_rfl
theorem zo21 : ZeroIs Try.prog 21 [.int .i32 0] := by unfold ZeroIs; kernel_rfl
theorem by21 : (Try.prog.info? 21).map (·.bytes) = some 4 := by kernel_rfl
theorem ty22 : tyOK Try.prog 22 false 1 = true := by kernel_rfl
theorem zo22 : ZeroIs Try.prog 22 [.slice none 0 0] := by unfold ZeroIs; kernel_rfl
theorem by22 : (Try.prog.info? 22).map (·.bytes) = some 24 := by kernel_rfl
theorem el22 : elemOK Try.prog 22 1 = true := by kernel_rfl
theorem so22 : sliceOf Try.prog 22 3 1 = true := by kernel_rfl
theorem ap22 : appOK Try.prog 22 1 8 = true := by kernel_rfl
theorem kd22 : kindOK Try.prog 22 = true := by kernel_rfl
theorem ty23 : tyOK Try.prog 23 false 1 = true := by kernel_rfl
theorem zo23 : ZeroIs Try.prog 23 [.slice none 0 0] := by unfold ZeroIs; kernel_rfl
theorem by23 : (Try.prog.info? 23).map (·.bytes) = some 24 := by kernel_rfl
theorem el23 : elemOK Try.prog 23 4 = true := by kernel_rfl
theorem so23 : sliceOf Try.prog 23 40 4 = true := by kernel_rfl
theorem ap23 : appOK Try.prog 23 4 32 = true := by kernel_rfl
theorem kd23 : kindOK Try.prog 23 = true := by kernel_rfl
theorem ty24 : tyOK Try.prog 24 true 2 = true := by kernel_rfl
theorem zo24 : ZeroIs Try.prog 24 [.slice none 0 0, .slice none 0 0] := by unfold ZeroIs; kernel_rfl
theorem by24 : (Try.prog.info? 24).map (·.bytes) = some 48 := by kernel_rfl
theorem fl24_0 : fieldOK Try.prog 24 0 0 = true := by kernel_rfl
theorem pt24_0 : partOK Try.prog 24 0 0 false 1 = true := by kernel_rfl
theorem fl24_1 : fieldOK Try.prog 24 1 1 = true := by kernel_rfl
theorem pt24_1 : partOK Try.prog 24 1 1 false 1 = true := by kernel_rfl
theorem ty25 : tyOK Try.prog 25 true 2 = true := by kernel_rfl
theorem zo25 : ZeroIs Try.prog 25 [.slice none 0 0, .slice none 0 0] := by unfold ZeroIs; kernel_rfl
theorem by25 : (Try.prog.info? 25).map (·.bytes) = some 48 := by kernel_rfl
theorem fl25_0 : fieldOK Try.prog 25 0 0 = true := by kernel_rfl
theorem pt25_0 : partOK Try.prog 25 0 0 false 1 = true := by kernel_rfl
theorem fl25_1 : fieldOK Try.prog 25 1 1 = true := by kernel_rfl
theorem pt25_1 : partOK Try.prog 25 1 1 false 1 = true := by kernel_rfl
theorem ty26 : tyOK Try.prog 26 false 1 = true := by kernel_rfl
theorem zo26 : ZeroIs Try.prog 26 [.nilFunc] := by unfold ZeroIs; kernel_rfl
theorem by26 : (Try.prog.info? 26).map (·.bytes) = some 8 := by kernel_rfl
theorem ty27 : tyOK Try.prog 27 false 1 = true := by kernel_rfl
theorem zo27 : ZeroIs Try.prog 27 [.nilFunc] := by unfold ZeroIs; kernel_rfl
theorem by27 : (Try.prog.info? 27).map (·.bytes) = some 8 := by kernel_rfl
theorem ty28 : tyOK Try.prog 28 false 1 = true := by kernel_rfl
theorem zo28 : ZeroIs Try.prog 28 [.int .i64 0] := by unfold ZeroIs; kernel_rfl
theorem by28 : (Try.prog.info? 28).map (·.bytes) = some 8 := by kernel_rfl
theorem ty29 : tyOK Try.prog 29 false 1 = true := by kernel_rfl
theorem zo29 : ZeroIs Try.prog 29 [.nilFunc] := by unfold ZeroIs; kernel_rfl
theorem by29 : (Try.prog.info? 29).map (·.bytes) = some 8 := by kernel_rfl
theorem ty31 : tyOK Try.prog 31 false 1 = true := by kernel_rfl
theorem zo31 : ZeroIs Try.prog 31 [.nilFunc] := by unfold ZeroIs; kernel_rfl
theorem by31 : (Try.prog.info? 31).map (·.bytes) = some 8 := by kernel_rfl
theorem ty32 : tyOK Try.prog 32 false 1 = true := by kernel_rfl
theorem zo32 : ZeroIs Try.prog 32 [.nilFunc] := by unfold ZeroIs; kernel_rfl
theorem by32 : (Try.prog.info? 32).map (·.bytes) = some 8 := by kernel_rfl
theorem ty33 : tyOK Try.prog 33 false 1 = true := by kernel_rfl
theorem zo33 : ZeroIs Try.prog 33 [.nilFunc] := by unfold ZeroIs; kernel_rfl
theorem by33 : (Try.prog.info? 33).map (·.bytes) = some 8 := by kernel_rfl
theorem ty35 : tyOK Try.prog 35 false 1 = true := by kernel_rfl
theorem zo35 : ZeroIs Try.prog 35 [.nilFunc] := by unfold ZeroIs; kernel_rfl
theorem by35 : (Try.prog.info? 35).map (·.bytes) = some 8 := by kernel_rfl
theorem ty37 : tyOK Try.prog 37 false 1 = true := by kernel_rfl
theorem zo37 : ZeroIs Try.prog 37 [.nilFunc] := by unfold ZeroIs; kernel_rfl
theorem by37 : (Try.prog.info? 37).map (·.bytes) = some 8 := by kernel_rfl
theorem ty38 : tyOK Try.prog 38 false 1 = true := by kernel_rfl
theorem zo38 : ZeroIs Try.prog 38 [.slice none 0 0] := by unfold ZeroIs; kernel_rfl
theorem by38 : (Try.prog.info? 38).map (·.bytes) = some 24 := by kernel_rfl
theorem el38 : elemOK Try.prog 38 1 = true := by kernel_rfl
theorem so38 : sliceOf Try.prog 38 5 1 = true := by kernel_rfl
theorem bs38 : byteSl Try.prog 38 = true := by kernel_rfl
theorem ap38 : appOK Try.prog 38 1 1 = true := by kernel_rfl
theorem kd38 : kindOK Try.prog 38 = true := by kernel_rfl
theorem ty39 : tyOK Try.prog 39 true 4 = true := by kernel_rfl
theorem zo39 : ZeroIs Try.prog 39 [.int .i64 0, .int .i64 0, .int .i64 0, .int .i64 0] := by unfold ZeroIs; kernel_rfl
theorem by39 : (Try.prog.info? 39).map (·.bytes) = some 32 := by kernel_rfl
theorem fl39_0 : fieldOK Try.prog 39 0 0 = true := by kernel_rfl
theorem pt39_0 : partOK Try.prog 39 0 0 false 1 = true := by kernel_rfl
theorem fl39_1 : fieldOK Try.prog 39 1 1 = true := by kernel_rfl
theorem pt39_1 : partOK Try.prog 39 1 1 false 1 = true := by kernel_rfl
theorem fl39_2 : fieldOK Try.prog 39 2 2 = true := by kernel_rfl
theorem pt39_2 : partOK Try.prog 39 2 2 false 1 = true := by kernel_rfl
theorem fl39_3 : fieldOK Try.prog 39 3 3 = true := by kernel_rfl
theorem pt39_3 : partOK Try.prog 39 3 3 false 1 = true := by kernel_rfl
theorem ty40 : tyOK Try.prog 40 true 4 = true := by kernel_rfl
theorem zo40 : ZeroIs Try.prog 40 [.int .i64 0, .int .i64 0, .int .i64 0, .int .i64 0] := by unfold ZeroIs; kernel_rfl
theorem by40 : (Try.prog.info? 40).map (·.bytes) = some 32 := by kernel_rfl
theorem fl40_0 : fieldOK Try.prog 40 0 0 = true := by kernel_rfl
theorem pt40_0 : partOK Try.prog 40 0 0 false 1 = true := by kernel_rfl
theorem fl40_1 : fieldOK Try.prog 40 1 1 = true := by kernel_rfl
theorem pt40_1 : partOK Try.prog 40 1 1 false 1 = true := by kernel_rfl
theorem fl40_2 : fieldOK Try.prog 40 2 2 = true := by kernel_rfl
theorem pt40_2 : partOK Try.prog 40 2 2 false 1 = true := by kernel_rfl
theorem fl40_3 : fieldOK Try.prog 40 3 3 = true := by kernel_rfl
theorem pt40_3 : partOK Try.prog 40 3 3 false 1 = true := by kernel_rfl
theorem ty41 : tyOK Try.prog 41 false 1 = true := by kernel_rfl
theorem zo41 : ZeroIs Try.prog 41 [.nilFunc] := by unfold ZeroIs; kernel_rfl
theorem by41 : (Try.prog.info? 41).map (·.bytes) = some 8 := by kernel_rfl
theorem ty42 : tyOK Try.prog 42 false 1 = true := by kernel_rfl
theorem zo42 : ZeroIs Try.prog 42 [.nilFunc] := by unfold ZeroIs; kernel_rfl
theorem by42 : (Try.prog.info? 42).map (·.bytes) = some 8 := by kernel_rfl
theorem ty43 : tyOK Try.prog 43 false 1 = true := by kernel_rfl
theorem zo43 : ZeroIs Try.prog 43 [.slice none 0 0] := by unfold ZeroIs; kernel_rfl
theorem by43 : (Try.prog.info? 43).map (·.bytes) = some 24 := by kernel_rfl
theorem el43 : elemOK Try.prog 43 1 = true := by kernel_rfl
theorem so43 : sliceOf Try.prog 43 4 1 = true := by kernel_rfl
theorem ap43 : appOK Try.prog 43 1 1 = true := by kernel_rfl
theorem kd43 : kindOK Try.prog 43 = true := by kernel_rfl
theorem ty44 : tyOK Try.prog 44 false 1 = true := by kernel_rfl
theorem zo44 : ZeroIs Try.prog 44 [.nilFunc] := by unfold ZeroIs; kernel_rfl
theorem by44 : (Try.prog.info? 44).map (·.bytes) = some 8 := by kernel_rfl
theorem ty45 : tyOK Try.prog 45 false 1 = true := by kernel_rfl
theorem zo45 : ZeroIs Try.prog 45 [.nilFunc] := by unfold ZeroIs; kernel_rfl
theorem by45 : (Try.prog.info? 45).map (·.bytes) = some 8 := by kernel_rfl
theorem ty46 : tyOK Try.prog 46 false 1 = true := by kernel_rfl
theorem zo46 : ZeroIs Try.prog 46 [.slice none 0 0] := by unfold ZeroIs; kernel_rfl
theorem by46 : (Try.prog.info? 46).map (·.bytes) = some 24 := by kernel_rfl
theorem el46 : elemOK Try.prog 46 1 = true := by kernel_rfl
theorem so46 : sliceOf Try.prog 46 22 1 = true := by kernel_rfl
theorem ap46 : appOK Try.prog 46 1 24 = true := by kernel_rfl
theorem kd46 : kindOK Try.prog 46 = true := by kernel_rfl
theorem ty47 : tyOK Try.prog 47 false 1 = true := by kernel_rfl
theorem zo47 : ZeroIs Try.prog 47 [.nilFunc] := by unfold ZeroIs; kernel_rfl
theorem by47 : (Try.prog.info? 47).map (·.bytes) = some 8 := by kernel_rfl
theorem ty48 : tyOK Try.prog 48 false 1 = true := by kernel_rfl
theorem zo48 : ZeroIs Try.prog 48 [.nilFunc] := by unfold ZeroIs; kernel_rfl
theorem by48 : (Try.prog.info? 48).map (·.bytes) = some 8 := by kernel_rfl
theorem ty49 : tyOK Try.prog 49 false 1 = true := by kernel_rfl
theorem zo49 : ZeroIs Try.prog 49 [.nilFunc] := by unfold ZeroIs; kernel_rfl
theorem by49 : (Try.prog.info? 49).map (·.bytes) = some 8 := by kernel_rfl
theorem ty50 : tyOK Try.prog 50 false 1 = true := by kernel_rfl
theorem zo50 : ZeroIs Try.prog 50 [.nilFunc] := by unfold ZeroIs; kernel_rfl
theorem by50 : (Try.prog.info? 50).map (·.bytes) = some 8 := by kernel_rfl
theorem ty51 : tyOK Try.prog 51 false 1 = true := by kernel_rfl
theorem zo51 : ZeroIs Try.prog 51 [.nilFunc] := by unfold ZeroIs; kernel_rfl
theorem by51 : (Try.prog.info? 51).map (·.bytes) = some 8 := by kernel_rfl
theorem ty52 : tyOK Try.prog 52 false 1 = true := by kernel_rfl
theorem zo52 : ZeroIs Try.prog 52 [.nilFunc] := by unfold ZeroIs; kernel_rfl
theorem by52 : (Try.prog.info? 52).map (·.bytes) = some 8 := by kernel_rfl
theorem ty53 : tyOK Try.prog 53 false 1 = true := by kernel_rfl
theorem zo53 : ZeroIs Try.prog 53 [.nilFunc] := by unfold ZeroIs; kernel_rfl
theorem by53 : (Try.prog.info? 53).map (·.bytes) = some 8 := by kernel_rfl
theorem ty54 : tyOK Try.prog 54 false 1 = true := by kernel_rfl
theorem zo54 : ZeroIs Try.prog 54 [.nilFunc] := by unfold ZeroIs; kernel_rfl
theorem by54 : (Try.prog.info? 54).map (·.bytes) = some 8 := by kernel_rfl
theorem ty55 : tyOK Try.prog 55 false 1 = true := by kernel_rfl
theorem zo55 : ZeroIs Try.prog 55 [.int .u64 0] := by unfold ZeroIs; kernel_rfl
theorem by55 : (Try.prog.info? 55).map (·.bytes) = some 8 := by kernel_rfl
theorem ty56 : tyOK Try.prog 56 false 1 = true := by kernel_rfl
theorem zo56 : ZeroIs Try.prog 56 [.nilFunc] := by unfold ZeroIs; kernel_rfl
theorem by56 : (Try.prog.info? 56).map (·.bytes) = some 8 := by kernel_rfl
theorem ty57 : tyOK Try.prog 57 false 1 = true := by kernel_rfl
theorem zo57 : ZeroIs Try.prog 57 [.nilFunc] := by unfold ZeroIs; kernel_rfl
theorem by57 : (Try.prog.info? 57).map (·.bytes) = some 8 := by kernel_rfl
theorem ty58 : tyOK Try.prog 58 false 1 = true := by kernel_rfl
theorem zo58 : ZeroIs Try.prog 58 [.int .i64 0] := by unfold ZeroIs; kernel_rfl
theorem by58 : (Try.prog.info? 58).map (·.bytes) = some 8 := by kernel_rfl
theorem ty60 : tyOK Try.prog 60 false 1 = true := by kernel_rfl
theorem zo60 : ZeroIs Try.prog 60 [.nilFunc] := by unfold ZeroIs; kernel_rfl
theorem by60 : (Try.prog.info? 60).map (·.bytes) = some 8 := by kernel_rfl
theorem ty61 : tyOK Try.prog 61 false 1 = true := by kernel_rfl
theorem zo61 : ZeroIs Try.prog 61 [.nilFunc] := by unfold ZeroIs; kernel_rfl
theorem by61 : (Try.prog.info? 61).map (·.bytes) = some 8 := by kernel_rfl
theorem ty62 : tyOK Try.prog 62 false 1 = true := by kernel_rfl
theorem zo62 : ZeroIs Try.prog 62 [.nilFunc] := by unfold ZeroIs; kernel_rfl
theorem by62 : (Try.prog.info? 62).map (·.bytes) = some 8 := by kernel_rfl
theorem ty63 : tyOK Try.prog 63 false 1 = true := by kernel_rfl
theorem zo63 : ZeroIs Try.prog 63 [.nilFunc] := by unfold ZeroIs; kernel_rfl
theorem by63 : (Try.prog.info? 63).map (·.bytes) = some 8 := by kernel_rfl
theorem ty65 : tyOK Try.prog 65 false 1 = true := by kernel_rfl
theorem zo65 : ZeroIs Try.prog 65 [.nilFunc] := by unfold ZeroIs; kernel_rfl
theorem by65 : (Try.prog.info? 65).map (·.bytes) = some 8 := by kernel_rfl
theorem ty66 : tyOK Try.prog 66 false 1 = true := by kernel_rfl
theorem zo66 : ZeroIs Try.prog 66 [.nilFunc] := by unfold ZeroIs; kernel_rfl
theorem by66 : (Try.prog.info? 66).map (·.bytes) = some 8 := by kernel_rfl
theorem ty67 : tyOK Try.prog 67 false 1 = true := by kernel_rfl
theorem zo67 : ZeroIs Try.prog 67 [.int .u32 0] := by unfold ZeroIs; kernel_rfl
theorem by67 : (Try.prog.info? 67).map (·.bytes) = some 4 := by kernel_rfl
theorem ty68 : tyOK Try.prog 68 false 1 = true := by kernel_rfl
theorem zo68 : ZeroIs Try.prog 68 [.nilFunc] := by unfold ZeroIs; kernel_rfl
theorem by68 : (Try.prog.info? 68).map (·.bytes) = some 8 := by kernel_rfl
theorem ty69 : tyOK Try.prog 69 false 1 = true := by kernel_rfl
theorem zo69 : ZeroIs Try.prog 69 [.int .u64 0] := by unfold ZeroIs; kernel_rfl
theorem by69 : (Try.prog.info? 69).map (·.bytes) = some 8 := by kernel_rfl
theorem ty70 : tyOK Try.prog 70 false 1 = true := by kernel_rfl
theorem zo70 : ZeroIs Try.prog 70 [.int .u64 0] := by unfold ZeroIs; kernel_rfl
theorem by70 : (Try.prog.info? 70).map (·.bytes) = some 8 := by kernel_rfl
theorem ty71 : tyOK Try.prog 71 false 1 = true := by kernel_rfl
theorem zo71 : ZeroIs Try.prog 71 [.nilFunc] := by unfold ZeroIs; kernel_rfl
theorem by71 : (Try.prog.info? 71).map (·.bytes) = some 8 := by kernel_rfl
theorem ty72 : tyOK Try.prog 72 false 1 = true := by kernel_rfl
theorem zo72 : ZeroIs Try.prog 72 [.nilFunc] := by unfold ZeroIs; kernel_rfl
theorem by72 : (Try.prog.info? 72).map (·.bytes) = some 8 := by kernel_rfl
theorem ty73 : tyOK Try.prog 73 false 1 = true := by kernel_rfl
theorem zo73 : ZeroIs Try.prog 73 [.nilFunc] := by unfold ZeroIs; kernel_rfl
theorem by73 : (Try.prog.info? 73).map (·.bytes) = some 8 := by kernel_rfl
theorem ty74 : tyOK Try.prog 74 false 1 = true := by kernel_rfl
theorem zo74 : ZeroIs Try.prog 74 [.pointer none] := by unfold ZeroIs; kernel_rfl
theorem by74 : (Try.prog.info? 74).map (·.bytes) = some 8 := by kernel_rfl
theorem ty75 : tyOK Try.prog 75 false 1 = true := by kernel_rfl
theorem zo75 : ZeroIs Try.prog 75 [.nilFunc] := by unfold ZeroIs; kernel_rfl
theorem by75 : (Try.prog.info? 75).map (·.bytes) = some 8 := by kernel_rfl
theorem ty76 : tyOK Try.prog 76 false 1 = true := by kernel_rfl
theorem zo76 : ZeroIs Try.prog 76 [.pointer none] := by unfold ZeroIs; kernel_rfl
theorem by76 : (Try.prog.info? 76).map (·.bytes) = some 8 := by kernel_rfl
theorem ty78 : tyOK Try.prog 78 false 1 = true := by kernel_rfl
theorem zo78 : ZeroIs Try.prog 78 [.nilFunc] := by unfold ZeroIs; kernel_rfl
theorem by78 : (Try.prog.info? 78).map (·.bytes) = some 8 := by kernel_rfl
theorem ty79 : tyOK Try.prog 79 false 1 = true := by kernel_rfl
theorem zo79 : ZeroIs Try.prog 79 [.nilFunc] := by unfold ZeroIs; kernel_rfl
theorem by79 : (Try.prog.info? 79).map (·.bytes) = some 8 := by kernel_rfl
theorem ty80 : tyOK Try.prog 80 true 4 = true := by kernel_rfl
theorem zo80 : ZeroIs Try.prog 80 [.pointer none, .pointer none, .pointer none, .string ⟨#[]⟩] := by unfold ZeroIs; kernel_rfl
theorem by80 : (Try.prog.info? 80).map (·.bytes) = some 40 := by kernel_rfl
theorem fl80_0 : fieldOK Try.prog 80 0 0 = true := by kernel_rfl
theorem pt80_0 : partOK Try.prog 80 0 0 false 1 = true := by kernel_rfl
theorem fl80_1 : fieldOK Try.prog 80 1 1 = true := by kernel_rfl
theorem pt80_1 : partOK Try.prog 80 1 1 false 1 = true := by kernel_rfl
theorem fl80_2 : fieldOK Try.prog 80 2 2 = true := by kernel_rfl
theorem pt80_2 : partOK Try.prog 80 2 2 false 1 = true := by kernel_rfl
theorem fl80_3 : fieldOK Try.prog 80 3 3 = true := by kernel_rfl
theorem pt80_3 : partOK Try.prog 80 3 3 false 1 = true := by kernel_rfl
theorem ty81 : tyOK Try.prog 81 true 4 = true := by kernel_rfl
theorem zo81 : ZeroIs Try.prog 81 [.pointer none, .pointer none, .pointer none, .string ⟨#[]⟩] := by unfold ZeroIs; kernel_rfl
theorem by81 : (Try.prog.info? 81).map (·.bytes) = some 40 := by kernel_rfl
theorem fl81_0 : fieldOK Try.prog 81 0 0 = true := by kernel_rfl
theorem pt81_0 : partOK Try.prog 81 0 0 false 1 = true := by kernel_rfl
theorem fl81_1 : fieldOK Try.prog 81 1 1 = true := by kernel_rfl
theorem pt81_1 : partOK Try.prog 81 1 1 false 1 = true := by kernel_rfl
theorem fl81_2 : fieldOK Try.prog 81 2 2 = true := by kernel_rfl
theorem pt81_2 : partOK Try.prog 81 2 2 false 1 = true := by kernel_rfl
theorem fl81_3 : fieldOK Try.prog 81 3 3 = true := by kernel_rfl
theorem pt81_3 : partOK Try.prog 81 3 3 false 1 = true := by kernel_rfl
theorem ty82 : tyOK Try.prog 82 true 0 = true := by kernel_rfl
theorem by82 : (Try.prog.info? 82).map (·.bytes) = some 0 := by kernel_rfl
theorem ar82 : arrOK Try.prog 82 0 false 1 = true := by kernel_rfl
theorem ty83 : tyOK Try.prog 83 true 0 = true := by kernel_rfl
theorem by83 : (Try.prog.info? 83).map (·.bytes) = some 0 := by kernel_rfl
theorem pt83_0 : partOK Try.prog 83 0 0 true 0 = true := by kernel_rfl
theorem ty84 : tyOK Try.prog 84 true 0 = true := by kernel_rfl
theorem by84 : (Try.prog.info? 84).map (·.bytes) = some 0 := by kernel_rfl
theorem pt84_0 : partOK Try.prog 84 0 0 true 0 = true := by kernel_rfl
theorem ty85 : tyOK Try.prog 85 false 1 = true := by kernel_rfl
theorem zo85 : ZeroIs Try.prog 85 [.nilFunc] := by unfold ZeroIs; kernel_rfl
theorem by85 : (Try.prog.info? 85).map (·.bytes) = some 8 := by kernel_rfl
theorem ty86 : tyOK Try.prog 86 false 1 = true := by kernel_rfl
theorem zo86 : ZeroIs Try.prog 86 [.int .u8 0] := by unfold ZeroIs; kernel_rfl
theorem by86 : (Try.prog.info? 86).map (·.bytes) = some 1 := by kernel_rfl
theorem ty87 : tyOK Try.prog 87 false 1 = true := by kernel_rfl
theorem zo87 : ZeroIs Try.prog 87 [.int .u8 0] := by unfold ZeroIs; kernel_rfl
theorem by87 : (Try.prog.info? 87).map (·.bytes) = some 1 := by kernel_rfl
theorem ty88 : tyOK Try.prog 88 false 1 = true := by kernel_rfl
theorem zo88 : ZeroIs Try.prog 88 [.nilFunc] := by unfold ZeroIs; kernel_rfl
theorem by88 : (Try.prog.info? 88).map (·.bytes) = some 8 := by kernel_rfl
theorem ty89 : tyOK Try.prog 89 false 1 = true := by kernel_rfl
theorem zo89 : ZeroIs Try.prog 89 [.pointer none] := by unfold ZeroIs; kernel_rfl
theorem by89 : (Try.prog.info? 89).map (·.bytes) = some 8 := by kernel_rfl
theorem ty90 : tyOK Try.prog 90 false 1 = true := by kernel_rfl
theorem zo90 : ZeroIs Try.prog 90 [.int .i32 0] := by unfold ZeroIs; kernel_rfl
theorem by90 : (Try.prog.info? 90).map (·.bytes) = some 4 := by kernel_rfl
theorem ty91 : tyOK Try.prog 91 false 1 = true := by kernel_rfl
theorem zo91 : ZeroIs Try.prog 91 [.int .i32 0] := by unfold ZeroIs; kernel_rfl
theorem by91 : (Try.prog.info? 91).map (·.bytes) = some 4 := by kernel_rfl
theorem ty92 : tyOK Try.prog 92 true 11 = true := by kernel_rfl
theorem zo92 : ZeroIs Try.prog 92 [.int .u64 0, .int .u64 0, .int .u32 0, .int .u8 0, .int .u8 0, .int .u8 0, .int .u8 0, .nilFunc, .pointer none, .int .i32 0, .int .i32 0] := by unfold ZeroIs; kernel_rfl
theorem by92 : (Try.prog.info? 92).map (·.bytes) = some 48 := by kernel_rfl
theorem fl92_0 : fieldOK Try.prog 92 0 0 = true := by kernel_rfl
theorem pt92_0 : partOK Try.prog 92 0 0 false 1 = true := by kernel_rfl
theorem fl92_1 : fieldOK Try.prog 92 1 1 = true := by kernel_rfl
theorem pt92_1 : partOK Try.prog 92 1 1 false 1 = true := by kernel_rfl
theorem fl92_2 : fieldOK Try.prog 92 2 2 = true := by kernel_rfl
theorem pt92_2 : partOK Try.prog 92 2 2 false 1 = true := by kernel_rfl
theorem fl92_3 : fieldOK Try.prog 92 3 3 = true := by kernel_rfl
theorem pt92_3 : partOK Try.prog 92 3 3 false 1 = true := by kernel_rfl
theorem fl92_4 : fieldOK Try.prog 92 4 4 = true := by kernel_rfl
theorem pt92_4 : partOK Try.prog 92 4 4 false 1 = true := by kernel_rfl
theorem fl92_5 : fieldOK Try.prog 92 5 5 = true := by kernel_rfl
theorem pt92_5 : partOK Try.prog 92 5 5 false 1 = true := by kernel_rfl
theorem fl92_6 : fieldOK Try.prog 92 6 6 = true := by kernel_rfl
theorem pt92_6 : partOK Try.prog 92 6 6 false 1 = true := by kernel_rfl
theorem fl92_7 : fieldOK Try.prog 92 7 7 = true := by kernel_rfl
theorem pt92_7 : partOK Try.prog 92 7 7 false 1 = true := by kernel_rfl
theorem fl92_8 : fieldOK Try.prog 92 8 8 = true := by kernel_rfl
theorem pt92_8 : partOK Try.prog 92 8 8 false 1 = true := by kernel_rfl
theorem fl92_9 : fieldOK Try.prog 92 9 9 = true := by kernel_rfl
theorem pt92_9 : partOK Try.prog 92 9 9 false 1 = true := by kernel_rfl
theorem fl92_10 : fieldOK Try.prog 92 10 10 = true := by kernel_rfl
theorem pt92_10 : partOK Try.prog 92 10 10 false 1 = true := by kernel_rfl
theorem ty93 : tyOK Try.prog 93 true 11 = true := by kernel_rfl
theorem zo93 : ZeroIs Try.prog 93 [.int .u64 0, .int .u64 0, .int .u32 0, .int .u8 0, .int .u8 0, .int .u8 0, .int .u8 0, .nilFunc, .pointer none, .int .i32 0, .int .i32 0] := by unfold ZeroIs; kernel_rfl
theorem by93 : (Try.prog.info? 93).map (·.bytes) = some 48 := by kernel_rfl
theorem fl93_0 : fieldOK Try.prog 93 0 0 = true := by kernel_rfl
theorem pt93_0 : partOK Try.prog 93 0 0 false 1 = true := by kernel_rfl
theorem fl93_1 : fieldOK Try.prog 93 1 1 = true := by kernel_rfl
theorem pt93_1 : partOK Try.prog 93 1 1 false 1 = true := by kernel_rfl
theorem fl93_2 : fieldOK Try.prog 93 2 2 = true := by kernel_rfl
theorem pt93_2 : partOK Try.prog 93 2 2 false 1 = true := by kernel_rfl
theorem fl93_3 : fieldOK Try.prog 93 3 3 = true := by kernel_rfl
theorem pt93_3 : partOK Try.prog 93 3 3 false 1 = true := by kernel_rfl
theorem fl93_4 : fieldOK Try.prog 93 4 4 = true := by kernel_rfl
theorem pt93_4 : partOK Try.prog 93 4 4 false 1 = true := by kernel_rfl
theorem fl93_5 : fieldOK Try.prog 93 5 5 = true := by kernel_rfl
theorem pt93_5 : partOK Try.prog 93 5 5 false 1 = true := by kernel_rfl
theorem fl93_6 : fieldOK Try.prog 93 6 6 = true := by kernel_rfl
theorem pt93_6 : partOK Try.prog 93 6 6 false 1 = true := by kernel_rfl
theorem fl93_7 : fieldOK Try.prog 93 7 7 = true := by kernel_rfl
theorem pt93_7 : partOK Try.prog 93 7 7 false 1 = true := by kernel_rfl
theorem fl93_8 : fieldOK Try.prog 93 8 8 = true := by kernel_rfl
theorem pt93_8 : partOK Try.prog 93 8 8 false 1 = true := by kernel_rfl
theorem fl93_9 : fieldOK Try.prog 93 9 9 = true := by kernel_rfl
theorem pt93_9 : partOK Try.prog 93 9 9 false 1 = true := by kernel_rfl
theorem fl93_10 : fieldOK Try.prog 93 10 10 = true := by kernel_rfl
theorem pt93_10 : partOK Try.prog 93 10 10 false 1 = true := by kernel_rfl
theorem ty94 : tyOK Try.prog 94 false 1 = true := by kernel_rfl
theorem zo94 : ZeroIs Try.prog 94 [.pointer none] := by unfold ZeroIs; kernel_rfl
theorem by94 : (Try.prog.info? 94).map (·.bytes) = some 8 := by kernel_rfl
theorem pl7 : PlacesAre Try.prog 7 ((#[(0, 1), (1, 1), (2, 1), (3, 1)] : Array (Nat × Nat))[·]?) := .inl ⟨_, _, Try.underlying7, fun w => by kernel_rfl, rfl⟩
theorem pl8 : PlacesAre Try.prog 8 ((#[(0, 1), (1, 1), (2, 1), (3, 1)] : Array (Nat × Nat))[·]?) := .inl ⟨_, _, Try.underlying8, fun w => by kernel_rfl, rfl⟩
theorem pl13 : PlacesAre Try.prog 13 ((#[(0, 1), (1, 1)] : Array (Nat × Nat))[·]?) := .inl ⟨_, _, Try.underlying13, fun w => by kernel_rfl, rfl⟩
theorem pl14 : PlacesAre Try.prog 14 ((#[(0, 1), (1, 1)] : Array (Nat × Nat))[·]?) := .inl ⟨_, _, Try.underlying14, fun w => by kernel_rfl, rfl⟩
theorem pl18 : PlacesAre Try.prog 18 ((#[(0, 1)] : Array (Nat × Nat))[·]?) := .inl ⟨_, _, Try.underlying18, fun w => by kernel_rfl, rfl⟩
theorem pl19 : PlacesAre Try.prog 19 ((#[(0, 1)] : Array (Nat × Nat))[·]?) := .inl ⟨_, _, Try.underlying19, fun w => by kernel_rfl, rfl⟩
theorem pl24 : PlacesAre Try.prog 24 ((#[(0, 1), (1, 1)] : Array (Nat × Nat))[·]?) := .inl ⟨_, _, Try.underlying24, fun w => by kernel_rfl, rfl⟩
theorem pl25 : PlacesAre Try.prog 25 ((#[(0, 1), (1, 1)] : Array (Nat × Nat))[·]?) := .inl ⟨_, _, Try.underlying25, fun w => by kernel_rfl, rfl⟩
theorem pl39 : PlacesAre Try.prog 39 ((#[(0, 1), (1, 1), (2, 1), (3, 1)] : Array (Nat × Nat))[·]?) := .inl ⟨_, _, Try.underlying39, fun w => by kernel_rfl, rfl⟩
theorem pl40 : PlacesAre Try.prog 40 ((#[(0, 1), (1, 1), (2, 1), (3, 1)] : Array (Nat × Nat))[·]?) := .inl ⟨_, _, Try.underlying40, fun w => by kernel_rfl, rfl⟩
theorem pl80 : PlacesAre Try.prog 80 ((#[(0, 1), (1, 1), (2, 1), (3, 1)] : Array (Nat × Nat))[·]?) := .inl ⟨_, _, Try.underlying80, fun w => by kernel_rfl, rfl⟩
theorem pl81 : PlacesAre Try.prog 81 ((#[(0, 1), (1, 1), (2, 1), (3, 1)] : Array (Nat × Nat))[·]?) := .inl ⟨_, _, Try.underlying81, fun w => by kernel_rfl, rfl⟩
theorem pl82 : PlacesAre Try.prog 82 (fun i => some (i * 1, 1)) := .inr ⟨_, _, _, Try.underlying82, fun w => tyOK_sizeOf ty16 w, rfl⟩
theorem pl83 : PlacesAre Try.prog 83 ((#[(0, 0)] : Array (Nat × Nat))[·]?) := .inl ⟨_, _, Try.underlying83, fun w => by kernel_rfl, rfl⟩
theorem pl84 : PlacesAre Try.prog 84 ((#[(0, 0)] : Array (Nat × Nat))[·]?) := .inl ⟨_, _, Try.underlying84, fun w => by kernel_rfl, rfl⟩
theorem pl92 : PlacesAre Try.prog 92 ((#[(0, 1), (1, 1), (2, 1), (3, 1), (4, 1), (5, 1), (6, 1), (7, 1), (8, 1), (9, 1), (10, 1)] : Array (Nat × Nat))[·]?) := .inl ⟨_, _, Try.underlying92, fun w => by kernel_rfl, rfl⟩
theorem pl93 : PlacesAre Try.prog 93 ((#[(0, 1), (1, 1), (2, 1), (3, 1), (4, 1), (5, 1), (6, 1), (7, 1), (8, 1), (9, 1), (10, 1)] : Array (Nat × Nat))[·]?) := .inl ⟨_, _, Try.underlying93, fun w => by kernel_rfl, rfl⟩
theorem en2 : enterOK Try.prog 2 = true := by kernel_rfl
theorem en3 : enterOK Try.prog 3 = true := by kernel_rfl
theorem en4 : enterOK Try.prog 4 = true := by kernel_rfl
theorem en5 : enterOK Try.prog 5 = true := by kernel_rfl
theorem en6 : enterOK Try.prog 6 = true := by kernel_rfl
theorem en7 : enterOK Try.prog 7 = true := by kernel_rfl
theorem en8 : enterOK Try.prog 8 = true := by kernel_rfl
theorem en9 : enterOK Try.prog 9 = true := by kernel_rfl
theorem en10 : enterOK Try.prog 10 = true := by kernel_rfl
theorem en11 : enterOK Try.prog 11 = true := by kernel_rfl
theorem en12 : enterOK Try.prog 12 = true := by kernel_rfl
theorem en13 : enterOK Try.prog 13 = true := by kernel_rfl
theorem en14 : enterOK Try.prog 14 = true := by kernel_rfl
theorem en15 : enterOK Try.prog 15 = true := by kernel_rfl
theorem en16 : enterOK Try.prog 16 = true := by kernel_rfl
theorem en17 : enterOK Try.prog 17 = true := by kernel_rfl
theorem en18 : enterOK Try.prog 18 = true := by kernel_rfl
theorem en19 : enterOK Try.prog 19 = true := by kernel_rfl
theorem en20 : enterOK Try.prog 20 = true := by kernel_rfl
theorem en21 : enterOK Try.prog 21 = true := by kernel_rfl
theorem en22 : enterOK Try.prog 22 = true := by kernel_rfl
theorem en23 : enterOK Try.prog 23 = true := by kernel_rfl
theorem en24 : enterOK Try.prog 24 = true := by kernel_rfl
theorem en25 : enterOK Try.prog 25 = true := by kernel_rfl
theorem en26 : enterOK Try.prog 26 = true := by kernel_rfl
theorem en27 : enterOK Try.prog 27 = true := by kernel_rfl
theorem en28 : enterOK Try.prog 28 = true := by kernel_rfl
theorem en29 : enterOK Try.prog 29 = true := by kernel_rfl
theorem en30 : enterOK Try.prog 30 = true := by kernel_rfl
theorem en31 : enterOK Try.prog 31 = true := by kernel_rfl
theorem en32 : enterOK Try.prog 32 = true := by kernel_rfl
theorem en33 : enterOK Try.prog 33 = true := by kernel_rfl
theorem en34 : enterOK Try.prog 34 = true := by kernel_rfl
theorem en35 : enterOK Try.prog 35 = true := by kernel_rfl
theorem en36 : enterOK Try.prog 36 = true := by kernel_rfl
theorem en37 : enterOK Try.prog 37 = true := by kernel_rfl
theorem en38 : enterOK Try.prog 38 = true := by kernel_rfl
theorem en39 : enterOK Try.prog 39 = true := by kernel_rfl
theorem en40 : enterOK Try.prog 40 = true := by kernel_rfl
theorem en41 : enterOK Try.prog 41 = true := by kernel_rfl
theorem en42 : enterOK Try.prog 42 = true := by kernel_rfl
theorem en43 : enterOK Try.prog 43 = true := by kernel_rfl
theorem en44 : enterOK Try.prog 44 = true := by kernel_rfl
theorem en45 : enterOK Try.prog 45 = true := by kernel_rfl
theorem en46 : enterOK Try.prog 46 = true := by kernel_rfl
theorem en47 : enterOK Try.prog 47 = true := by kernel_rfl
theorem en48 : enterOK Try.prog 48 = true := by kernel_rfl
theorem mixed : Try.prog.follows .mixedOrders = true := by kernel_rfl

end Go.Proofs.Ytcnikeonaklkoaa
