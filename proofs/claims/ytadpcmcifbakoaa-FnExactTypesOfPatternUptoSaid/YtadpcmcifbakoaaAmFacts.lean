/-
  CLOSED FACTS ON THE TYPES AND FUNCTIONS OF THE TRANSLATION, laid by program (facts.py).
-/
import Derived.Test.YtadpcmcifbakoaaAmZ
import Derived.Test.YtadpcmcifbakoaaProg
import Derived.KernelRfl
namespace Go.Proofs.Ytadpcmcifbakoaa
open Go
set_option maxRecDepth 100000
theorem ty3 : TyS Try.prog 3 1 false := TyS.of (by kernel_rfl)
theorem ty4 : TyS Try.prog 4 1 false := TyS.of (by kernel_rfl)
theorem ty5 : TyS Try.prog 5 1 false := TyS.of (by kernel_rfl)
theorem ty9 : TyS Try.prog 9 1 false := TyS.of (by kernel_rfl)
theorem ty24 : TyS Try.prog 24 1 false := TyS.of (by kernel_rfl)
theorem ty26 : TyS Try.prog 26 1 false := TyS.of (by kernel_rfl)
theorem ty33 : TyS Try.prog 33 1 false := TyS.of (by kernel_rfl)
theorem ty38 : TyS Try.prog 38 2 true := TyS.of (by kernel_rfl)
theorem ty40 : TyS Try.prog 40 2 true := TyS.of (by kernel_rfl)
theorem ty47 : TyS Try.prog 47 1 false := TyS.of (by kernel_rfl)
theorem ty49 : TyS Try.prog 49 3 true := TyS.of (by kernel_rfl)
theorem ty52 : TyS Try.prog 52 1 false := TyS.of (by kernel_rfl)
theorem ty54 : TyS Try.prog 54 3 true := TyS.of (by kernel_rfl)
theorem ty63 : TyS Try.prog 63 1 false := TyS.of (by kernel_rfl)
theorem ty65 : TyS Try.prog 65 6 true := TyS.of (by kernel_rfl)
theorem ty68 : TyS Try.prog 68 1 false := TyS.of (by kernel_rfl)
theorem ty70 : TyS Try.prog 70 6 true := TyS.of (by kernel_rfl)
theorem ty76 : TyS Try.prog 76 1 false := TyS.of (by kernel_rfl)
theorem ty78 : TyS Try.prog 78 2 true := TyS.of (by kernel_rfl)
theorem ty79 : TyS Try.prog 79 1 false := TyS.of (by kernel_rfl)
theorem ty81 : TyS Try.prog 81 2 true := TyS.of (by kernel_rfl)
theorem ty90 : TyS Try.prog 90 3 true := TyS.of (by kernel_rfl)
theorem ty134 : TyS Try.prog 134 1 false := TyS.of (by kernel_rfl)
theorem ty138 : TyS Try.prog 138 1 false := TyS.of (by kernel_rfl)
theorem ty140 : TyS Try.prog 140 3 true := TyS.of (by kernel_rfl)
theorem ty168 : TyS Try.prog 168 3 true := TyS.of (by kernel_rfl)
theorem sl22 : SlT Try.prog 22 78 2 40 := SlT.of (by kernel_rfl)
theorem sl24 : SlT Try.prog 24 38 2 16 := SlT.of (by kernel_rfl)
theorem sl26 : SlT Try.prog 26 81 2 40 := SlT.of (by kernel_rfl)
theorem sl33 : SlT Try.prog 33 5 1 1 := SlT.of (by kernel_rfl)
theorem sl47 : SlT Try.prog 47 49 3 40 := SlT.of (by kernel_rfl)
theorem sl52 : SlT Try.prog 52 54 3 40 := SlT.of (by kernel_rfl)
theorem sl63 : SlT Try.prog 63 65 6 64 := SlT.of (by kernel_rfl)
theorem sl68 : SlT Try.prog 68 70 6 64 := SlT.of (by kernel_rfl)
theorem sl76 : SlT Try.prog 76 140 3 48 := SlT.of (by kernel_rfl)
theorem sl79 : SlT Try.prog 79 90 3 48 := SlT.of (by kernel_rfl)
theorem sl126 : SlT Try.prog 126 3 1 8 := SlT.of (by kernel_rfl)
theorem sl134 : SlT Try.prog 134 168 3 24 := SlT.of (by kernel_rfl)
theorem sl138 : SlT Try.prog 138 40 2 16 := SlT.of (by kernel_rfl)
theorem sl149 : SlT Try.prog 149 9 1 16 := SlT.of (by kernel_rfl)
theorem sl155 : SlT Try.prog 155 52 1 24 := SlT.of (by kernel_rfl)
theorem tz3 : TyZ Try.prog 3 1 [.d (.int .i64 0)] := TyZ.of (by kernel_rfl)
theorem tz5 : TyZ Try.prog 5 1 [.d (.int .u8 0)] := TyZ.of (by kernel_rfl)
theorem tz9 : TyZ Try.prog 9 1 [.d (.str [])] := TyZ.of (by kernel_rfl)
theorem tz38 : TyZ Try.prog 38 2 [.d (.int .i64 0), .d (.int .i64 0)] := TyZ.of (by kernel_rfl)
theorem tz52 : TyZ Try.prog 52 1 [.nils] := TyZ.of (by kernel_rfl)
theorem tz54 : TyZ Try.prog 54 3 [.d (.int .i64 0), .d (.int .i64 0), .nils] := TyZ.of (by kernel_rfl)
theorem tz70 : TyZ Try.prog 70 6 [.d (.int .i64 0), .d (.int .i64 0), .d (.int .i64 0), .d (.int .i64 0), .d (.int .i64 0), .nils] := TyZ.of (by kernel_rfl)
theorem tz81 : TyZ Try.prog 81 2 [.d (.str []), .nils] := TyZ.of (by kernel_rfl)
theorem tz90 : TyZ Try.prog 90 3 [.d (.str []), .nils, .d (.int .i64 0)] := TyZ.of (by kernel_rfl)
theorem tz168 : TyZ Try.prog 168 3 [.d (.int .i64 0), .d (.int .i64 0), .d (.int .i64 0)] := TyZ.of (by kernel_rfl)
theorem tz182 : TyZ Try.prog 182 6 [.d (.bool false), .d (.bool false), .d (.bool false), .d (.bool false), .d (.bool false), .d (.bool false)] := TyZ.of (by kernel_rfl)
theorem zz3 : ZeroT Try.prog 3 1 := ZeroT.of (by kernel_rfl)
theorem zz5 : ZeroT Try.prog 5 1 := ZeroT.of (by kernel_rfl)
theorem zz9 : ZeroT Try.prog 9 1 := ZeroT.of (by kernel_rfl)
theorem zz38 : ZeroT Try.prog 38 2 := ZeroT.of (by kernel_rfl)
theorem zz40 : ZeroT Try.prog 40 2 := ZeroT.of (by kernel_rfl)
theorem zz49 : ZeroT Try.prog 49 3 := ZeroT.of (by kernel_rfl)
theorem zz52 : ZeroT Try.prog 52 1 := ZeroT.of (by kernel_rfl)
theorem zz54 : ZeroT Try.prog 54 3 := ZeroT.of (by kernel_rfl)
theorem zz65 : ZeroT Try.prog 65 6 := ZeroT.of (by kernel_rfl)
theorem zz70 : ZeroT Try.prog 70 6 := ZeroT.of (by kernel_rfl)
theorem zz78 : ZeroT Try.prog 78 2 := ZeroT.of (by kernel_rfl)
theorem zz81 : ZeroT Try.prog 81 2 := ZeroT.of (by kernel_rfl)
theorem zz90 : ZeroT Try.prog 90 3 := ZeroT.of (by kernel_rfl)
theorem zz140 : ZeroT Try.prog 140 3 := ZeroT.of (by kernel_rfl)
theorem zz168 : ZeroT Try.prog 168 3 := ZeroT.of (by kernel_rfl)
theorem st38 : StT Try.prog 38 [(0, 1), (1, 1)] [.d (.int .i64 0), .d (.int .i64 0)] := StT.of (by kernel_rfl)
theorem st54 : StT Try.prog 54 [(0, 1), (1, 1), (2, 1)] [.d (.int .i64 0), .d (.int .i64 0), .nils] := StT.of (by kernel_rfl)
theorem st81 : StT Try.prog 81 [(0, 1), (1, 1)] [.d (.str []), .nils] := StT.of (by kernel_rfl)
theorem st90 : StT Try.prog 90 [(0, 1), (1, 1), (2, 1)] [.d (.str []), .nils, .d (.int .i64 0)] := StT.of (by kernel_rfl)
theorem st146 : StT Try.prog 146 [(0, 1), (1, 1)] [.nils, .d (.int .i64 0)] := StT.of (by kernel_rfl)
theorem st168 : StT Try.prog 168 [(0, 1), (1, 2)] [.d (.int .i64 0), .d (.int .i64 0), .d (.int .i64 0)] := StT.of (by kernel_rfl)
theorem fd38_0 : Fd Try.prog 38 0 0 := Fd.of (by kernel_rfl)
theorem fd38_1 : Fd Try.prog 38 1 1 := Fd.of (by kernel_rfl)
theorem fd40_0 : Fd Try.prog 40 0 0 := Fd.of (by kernel_rfl)
theorem fd40_1 : Fd Try.prog 40 1 1 := Fd.of (by kernel_rfl)
theorem fd49_0 : Fd Try.prog 49 0 0 := Fd.of (by kernel_rfl)
theorem fd49_1 : Fd Try.prog 49 1 1 := Fd.of (by kernel_rfl)
theorem fd49_2 : Fd Try.prog 49 2 2 := Fd.of (by kernel_rfl)
theorem fd54_0 : Fd Try.prog 54 0 0 := Fd.of (by kernel_rfl)
theorem fd54_1 : Fd Try.prog 54 1 1 := Fd.of (by kernel_rfl)
theorem fd54_2 : Fd Try.prog 54 2 2 := Fd.of (by kernel_rfl)
theorem fd65_0 : Fd Try.prog 65 0 0 := Fd.of (by kernel_rfl)
theorem fd65_1 : Fd Try.prog 65 1 1 := Fd.of (by kernel_rfl)
theorem fd65_2 : Fd Try.prog 65 2 2 := Fd.of (by kernel_rfl)
theorem fd65_3 : Fd Try.prog 65 3 3 := Fd.of (by kernel_rfl)
theorem fd65_4 : Fd Try.prog 65 4 4 := Fd.of (by kernel_rfl)
theorem fd65_5 : Fd Try.prog 65 5 5 := Fd.of (by kernel_rfl)
theorem fd70_0 : Fd Try.prog 70 0 0 := Fd.of (by kernel_rfl)
theorem fd70_1 : Fd Try.prog 70 1 1 := Fd.of (by kernel_rfl)
theorem fd70_2 : Fd Try.prog 70 2 2 := Fd.of (by kernel_rfl)
theorem fd70_3 : Fd Try.prog 70 3 3 := Fd.of (by kernel_rfl)
theorem fd70_4 : Fd Try.prog 70 4 4 := Fd.of (by kernel_rfl)
theorem fd70_5 : Fd Try.prog 70 5 5 := Fd.of (by kernel_rfl)
theorem fd78_0 : Fd Try.prog 78 0 0 := Fd.of (by kernel_rfl)
theorem fd78_1 : Fd Try.prog 78 1 1 := Fd.of (by kernel_rfl)
theorem fd81_0 : Fd Try.prog 81 0 0 := Fd.of (by kernel_rfl)
theorem fd81_1 : Fd Try.prog 81 1 1 := Fd.of (by kernel_rfl)
theorem fd90_0 : Fd Try.prog 90 0 0 := Fd.of (by kernel_rfl)
theorem fd90_1 : Fd Try.prog 90 1 1 := Fd.of (by kernel_rfl)
theorem fd90_2 : Fd Try.prog 90 2 2 := Fd.of (by kernel_rfl)
theorem fd140_0 : Fd Try.prog 140 0 0 := Fd.of (by kernel_rfl)
theorem fd140_1 : Fd Try.prog 140 1 1 := Fd.of (by kernel_rfl)
theorem fd140_2 : Fd Try.prog 140 2 2 := Fd.of (by kernel_rfl)
theorem fd146_0 : Fd Try.prog 146 0 0 := Fd.of (by kernel_rfl)
theorem fd146_1 : Fd Try.prog 146 1 1 := Fd.of (by kernel_rfl)
theorem fd168_0 : Fd Try.prog 168 0 0 := Fd.of (by kernel_rfl)
theorem fd168_1 : Fd Try.prog 168 1 1 := Fd.of (by kernel_rfl)
theorem ar182 : ArT Try.prog 182 6 4 1 := ArT.of (by kernel_rfl)
theorem un3 : Try.prog.underlying 3 = some (.int .i64) := by kernel_rfl
theorem un4 : Try.prog.underlying 4 = some (.bool) := by kernel_rfl
theorem un5 : Try.prog.underlying 5 = some (.int .u8) := by kernel_rfl
theorem un9 : Try.prog.underlying 9 = some (.string) := by kernel_rfl
theorem mp87 : MapT Try.prog 87 := MapT.of (by kernel_rfl)
theorem eq38 : EqT Try.prog 38 2 := ⟨by kernel_rfl, by kernel_rfl, by kernel_rfl, by kernel_rfl, by kernel_rfl⟩
theorem eq168 : EqT2 Try.prog 168 3 := ⟨by kernel_rfl, by kernel_rfl, by kernel_rfl, by kernel_rfl, by kernel_rfl⟩
theorem cal10 : Callee Try.prog 10 := ⟨fun args w => hasBody (fn := Try.f10) rfl rfl (by decide) args w⟩
theorem cal11 : Callee Try.prog 11 := ⟨fun args w => hasBody (fn := Try.f11) rfl rfl (by decide) args w⟩
theorem cal12 : Callee Try.prog 12 := ⟨fun args w => hasBody (fn := Try.f12) rfl rfl (by decide) args w⟩
theorem cal13 : Callee Try.prog 13 := ⟨fun args w => hasBody (fn := Try.f13) rfl rfl (by decide) args w⟩
theorem cal14 : Callee Try.prog 14 := ⟨fun args w => hasBody (fn := Try.f14) rfl rfl (by decide) args w⟩
theorem cal15 : Callee Try.prog 15 := ⟨fun args w => hasBody (fn := Try.f15) rfl rfl (by decide) args w⟩
theorem cal16 : Callee Try.prog 16 := ⟨fun args w => hasBody (fn := Try.f16) rfl rfl (by decide) args w⟩
theorem cal17 : Callee Try.prog 17 := ⟨fun args w => hasBody (fn := Try.f17) rfl rfl (by decide) args w⟩
theorem cal18 : Callee Try.prog 18 := ⟨fun args w => hasBody (fn := Try.f18) rfl rfl (by decide) args w⟩
theorem cal19 : Callee Try.prog 19 := ⟨fun args w => hasBody (fn := Try.f19) rfl rfl (by decide) args w⟩
theorem cal20 : Callee Try.prog 20 := ⟨fun args w => hasBody (fn := Try.f20) rfl rfl (by decide) args w⟩
theorem cal21 : Callee Try.prog 21 := ⟨fun args w => hasBody (fn := Try.f21) rfl rfl (by decide) args w⟩
theorem cal22 : Callee Try.prog 22 := ⟨fun args w => hasBody (fn := Try.f22) rfl rfl (by decide) args w⟩
theorem cal23 : Callee Try.prog 23 := ⟨fun args w => hasBody (fn := Try.f23) rfl rfl (by decide) args w⟩
theorem cal24 : Callee Try.prog 24 := ⟨fun args w => hasBody (fn := Try.f24) rfl rfl (by decide) args w⟩
theorem cal25 : Callee Try.prog 25 := ⟨fun args w => hasBody (fn := Try.f25) rfl rfl (by decide) args w⟩
theorem cal26 : Callee Try.prog 26 := ⟨fun args w => hasBody (fn := Try.f26) rfl rfl (by decide) args w⟩
theorem cal27 : Callee Try.prog 27 := ⟨fun args w => hasBody (fn := Try.f27) rfl rfl (by decide) args w⟩
theorem cal28 : Callee Try.prog 28 := ⟨fun args w => hasBody (fn := Try.f28) rfl rfl (by decide) args w⟩
theorem cal29 : Callee Try.prog 29 := ⟨fun args w => hasBody (fn := Try.f29) rfl rfl (by decide) args w⟩
theorem cal30 : Callee Try.prog 30 := ⟨fun args w => hasBody (fn := Try.f30) rfl rfl (by decide) args w⟩
theorem cal31 : Callee Try.prog 31 := ⟨fun args w => hasBody (fn := Try.f31) rfl rfl (by decide) args w⟩
theorem cal32 : Callee Try.prog 32 := ⟨fun args w => hasBody (fn := Try.f32) rfl rfl (by decide) args w⟩
theorem cal33 : Callee Try.prog 33 := ⟨fun args w => hasBody (fn := Try.f33) rfl rfl (by decide) args w⟩
theorem cal34 : Callee Try.prog 34 := ⟨fun args w => hasBody (fn := Try.f34) rfl rfl (by decide) args w⟩
theorem cal35 : Callee Try.prog 35 := ⟨fun args w => hasBody (fn := Try.f35) rfl rfl (by decide) args w⟩
theorem cal36 : Callee Try.prog 36 := ⟨fun args w => hasBody (fn := Try.f36) rfl rfl (by decide) args w⟩
theorem cal37 : Callee Try.prog 37 := ⟨fun args w => hasBody (fn := Try.f37) rfl rfl (by decide) args w⟩
theorem cal38 : Callee Try.prog 38 := ⟨fun args w => hasBody (fn := Try.f38) rfl rfl (by decide) args w⟩
theorem cal39 : Callee Try.prog 39 := ⟨fun args w => hasBody (fn := Try.f39) rfl rfl (by decide) args w⟩
theorem cal40 : Callee Try.prog 40 := ⟨fun args w => hasBody (fn := Try.f40) rfl rfl (by decide) args w⟩
theorem cal41 : Callee Try.prog 41 := ⟨fun args w => hasBody (fn := Try.f41) rfl rfl (by decide) args w⟩
theorem cal42 : Callee Try.prog 42 := ⟨fun args w => hasBody (fn := Try.f42) rfl rfl (by decide) args w⟩
theorem cal43 : Callee Try.prog 43 := ⟨fun args w => hasBody (fn := Try.f43) rfl rfl (by decide) args w⟩
theorem cal44 : Callee Try.prog 44 := ⟨fun args w => hasBody (fn := Try.f44) rfl rfl (by decide) args w⟩
theorem cal45 : Callee Try.prog 45 := ⟨fun args w => hasBody (fn := Try.f45) rfl rfl (by decide) args w⟩
theorem cal46 : Callee Try.prog 46 := ⟨fun args w => hasBody (fn := Try.f46) rfl rfl (by decide) args w⟩
theorem cal47 : Callee Try.prog 47 := ⟨fun args w => hasBody (fn := Try.f47) rfl rfl (by decide) args w⟩
theorem cal48 : Callee Try.prog 48 := ⟨fun args w => hasBody (fn := Try.f48) rfl rfl (by decide) args w⟩
theorem cal49 : Callee Try.prog 49 := ⟨fun args w => hasBody (fn := Try.f49) rfl rfl (by decide) args w⟩
theorem cal50 : Callee Try.prog 50 := ⟨fun args w => hasBody (fn := Try.f50) rfl rfl (by decide) args w⟩
theorem cal51 : Callee Try.prog 51 := ⟨fun args w => hasBody (fn := Try.f51) rfl rfl (by decide) args w⟩
theorem cal52 : Callee Try.prog 52 := ⟨fun args w => hasBody (fn := Try.f52) rfl rfl (by decide) args w⟩
theorem cal53 : Callee Try.prog 53 := ⟨fun args w => hasBody (fn := Try.f53) rfl rfl (by decide) args w⟩
theorem cal54 : Callee Try.prog 54 := ⟨fun args w => hasBody (fn := Try.f54) rfl rfl (by decide) args w⟩
theorem cal55 : Callee Try.prog 55 := ⟨fun args w => hasBody (fn := Try.f55) rfl rfl (by decide) args w⟩
theorem cal56 : Callee Try.prog 56 := ⟨fun args w => hasBody (fn := Try.f56) rfl rfl (by decide) args w⟩
theorem cal57 : Callee Try.prog 57 := ⟨fun args w => hasBody (fn := Try.f57) rfl rfl (by decide) args w⟩
theorem cal58 : Callee Try.prog 58 := ⟨fun args w => hasBody (fn := Try.f58) rfl rfl (by decide) args w⟩
theorem cal59 : Callee Try.prog 59 := ⟨fun args w => hasBody (fn := Try.f59) rfl rfl (by decide) args w⟩
theorem cal60 : Callee Try.prog 60 := ⟨fun args w => hasBody (fn := Try.f60) rfl rfl (by decide) args w⟩
theorem cal61 : Callee Try.prog 61 := ⟨fun args w => hasBody (fn := Try.f61) rfl rfl (by decide) args w⟩
theorem cal62 : Callee Try.prog 62 := ⟨fun args w => hasBody (fn := Try.f62) rfl rfl (by decide) args w⟩
theorem cal63 : Callee Try.prog 63 := ⟨fun args w => hasBody (fn := Try.f63) rfl rfl (by decide) args w⟩
theorem cal64 : Callee Try.prog 64 := ⟨fun args w => hasBody (fn := Try.f64) rfl rfl (by decide) args w⟩
theorem cal65 : Callee Try.prog 65 := ⟨fun args w => hasBody (fn := Try.f65) rfl rfl (by decide) args w⟩
theorem cal66 : Callee Try.prog 66 := ⟨fun args w => hasBody (fn := Try.f66) rfl rfl (by decide) args w⟩
theorem cal67 : Callee Try.prog 67 := ⟨fun args w => hasBody (fn := Try.f67) rfl rfl (by decide) args w⟩
theorem cal68 : Callee Try.prog 68 := ⟨fun args w => hasBody (fn := Try.f68) rfl rfl (by decide) args w⟩
theorem cal69 : Callee Try.prog 69 := ⟨fun args w => hasBody (fn := Try.f69) rfl rfl (by decide) args w⟩
theorem cal70 : Callee Try.prog 70 := ⟨fun args w => hasBody (fn := Try.f70) rfl rfl (by decide) args w⟩
theorem cal71 : Callee Try.prog 71 := ⟨fun args w => hasBody (fn := Try.f71) rfl rfl (by decide) args w⟩
theorem cal72 : Callee Try.prog 72 := ⟨fun args w => hasBody (fn := Try.f72) rfl rfl (by decide) args w⟩
theorem cal73 : Callee Try.prog 73 := ⟨fun args w => hasBody (fn := Try.f73) rfl rfl (by decide) args w⟩
theorem cal74 : Callee Try.prog 74 := ⟨fun args w => hasBody (fn := Try.f74) rfl rfl (by decide) args w⟩
theorem cal75 : Callee Try.prog 75 := ⟨fun args w => hasBody (fn := Try.f75) rfl rfl (by decide) args w⟩
theorem cal76 : Callee Try.prog 76 := ⟨fun args w => hasBody (fn := Try.f76) rfl rfl (by decide) args w⟩
theorem cal77 : Callee Try.prog 77 := ⟨fun args w => hasBody (fn := Try.f77) rfl rfl (by decide) args w⟩
theorem cal78 : Callee Try.prog 78 := ⟨fun args w => hasBody (fn := Try.f78) rfl rfl (by decide) args w⟩
theorem cal79 : Callee Try.prog 79 := ⟨fun args w => hasBody (fn := Try.f79) rfl rfl (by decide) args w⟩
theorem cal80 : Callee Try.prog 80 := ⟨fun args w => hasBody (fn := Try.f80) rfl rfl (by decide) args w⟩
theorem cal81 : Callee Try.prog 81 := ⟨fun args w => hasBody (fn := Try.f81) rfl rfl (by decide) args w⟩
theorem cal82 : Callee Try.prog 82 := ⟨fun args w => hasBody (fn := Try.f82) rfl rfl (by decide) args w⟩
theorem cal83 : Callee Try.prog 83 := ⟨fun args w => hasBody (fn := Try.f83) rfl rfl (by decide) args w⟩
theorem cal84 : Callee Try.prog 84 := ⟨fun args w => hasBody (fn := Try.f84) rfl rfl (by decide) args w⟩
theorem cal85 : Callee Try.prog 85 := ⟨fun args w => hasBody (fn := Try.f85) rfl rfl (by decide) args w⟩
theorem cal86 : Callee Try.prog 86 := ⟨fun args w => hasBody (fn := Try.f86) rfl rfl (by decide) args w⟩
theorem cal87 : Callee Try.prog 87 := ⟨fun args w => hasBody (fn := Try.f87) rfl rfl (by decide) args w⟩
theorem cal88 : Callee Try.prog 88 := ⟨fun args w => hasBody (fn := Try.f88) rfl rfl (by decide) args w⟩
theorem cal89 : Callee Try.prog 89 := ⟨fun args w => hasBody (fn := Try.f89) rfl rfl (by decide) args w⟩
theorem cal90 : Callee Try.prog 90 := ⟨fun args w => hasBody (fn := Try.f90) rfl rfl (by decide) args w⟩
theorem cal91 : Callee Try.prog 91 := ⟨fun args w => hasBody (fn := Try.f91) rfl rfl (by decide) args w⟩
theorem cal92 : Callee Try.prog 92 := ⟨fun args w => hasBody (fn := Try.f92) rfl rfl (by decide) args w⟩
theorem cal93 : Callee Try.prog 93 := ⟨fun args w => hasBody (fn := Try.f93) rfl rfl (by decide) args w⟩
theorem cal94 : Callee Try.prog 94 := ⟨fun args w => hasBody (fn := Try.f94) rfl rfl (by decide) args w⟩
theorem cal95 : Callee Try.prog 95 := ⟨fun args w => hasBody (fn := Try.f95) rfl rfl (by decide) args w⟩
theorem cal96 : Callee Try.prog 96 := ⟨fun args w => hasBody (fn := Try.f96) rfl rfl (by decide) args w⟩
theorem cal97 : Callee Try.prog 97 := ⟨fun args w => hasBody (fn := Try.f97) rfl rfl (by decide) args w⟩
theorem cal98 : Callee Try.prog 98 := ⟨fun args w => hasBody (fn := Try.f98) rfl rfl (by decide) args w⟩
theorem cal99 : Callee Try.prog 99 := ⟨fun args w => hasBody (fn := Try.f99) rfl rfl (by decide) args w⟩
theorem cal100 : Callee Try.prog 100 := ⟨fun args w => hasBody (fn := Try.f100) rfl rfl (by decide) args w⟩
theorem cal101 : Callee Try.prog 101 := ⟨fun args w => hasBody (fn := Try.f101) rfl rfl (by decide) args w⟩
theorem cal102 : Callee Try.prog 102 := ⟨fun args w => hasBody (fn := Try.f102) rfl rfl (by decide) args w⟩
theorem cal103 : Callee Try.prog 103 := ⟨fun args w => hasBody (fn := Try.f103) rfl rfl (by decide) args w⟩
theorem cal104 : Callee Try.prog 104 := ⟨fun args w => hasBody (fn := Try.f104) rfl rfl (by decide) args w⟩
theorem cal105 : Callee Try.prog 105 := ⟨fun args w => hasBody (fn := Try.f105) rfl rfl (by decide) args w⟩
theorem cal106 : Callee Try.prog 106 := ⟨fun args w => hasBody (fn := Try.f106) rfl rfl (by decide) args w⟩
theorem cal107 : Callee Try.prog 107 := ⟨fun args w => hasBody (fn := Try.f107) rfl rfl (by decide) args w⟩
theorem cal108 : Callee Try.prog 108 := ⟨fun args w => hasBody (fn := Try.f108) rfl rfl (by decide) args w⟩
theorem cal109 : Callee Try.prog 109 := ⟨fun args w => hasBody (fn := Try.f109) rfl rfl (by decide) args w⟩
theorem cal110 : Callee Try.prog 110 := ⟨fun args w => hasBody (fn := Try.f110) rfl rfl (by decide) args w⟩
theorem cal111 : Callee Try.prog 111 := ⟨fun args w => hasBody (fn := Try.f111) rfl rfl (by decide) args w⟩
theorem cal112 : Callee Try.prog 112 := ⟨fun args w => hasBody (fn := Try.f112) rfl rfl (by decide) args w⟩
theorem cal113 : Callee Try.prog 113 := ⟨fun args w => hasBody (fn := Try.f113) rfl rfl (by decide) args w⟩
theorem cal114 : Callee Try.prog 114 := ⟨fun args w => hasBody (fn := Try.f114) rfl rfl (by decide) args w⟩
theorem cal115 : Callee Try.prog 115 := ⟨fun args w => hasBody (fn := Try.f115) rfl rfl (by decide) args w⟩
theorem cal116 : Callee Try.prog 116 := ⟨fun args w => hasBody (fn := Try.f116) rfl rfl (by decide) args w⟩
theorem cal117 : Callee Try.prog 117 := ⟨fun args w => hasBody (fn := Try.f117) rfl rfl (by decide) args w⟩
theorem cal118 : Callee Try.prog 118 := ⟨fun args w => hasBody (fn := Try.f118) rfl rfl (by decide) args w⟩
theorem cal119 : Callee Try.prog 119 := ⟨fun args w => hasBody (fn := Try.f119) rfl rfl (by decide) args w⟩
theorem cal120 : Callee Try.prog 120 := ⟨fun args w => hasBody (fn := Try.f120) rfl rfl (by decide) args w⟩
theorem cal121 : Callee Try.prog 121 := ⟨fun args w => hasBody (fn := Try.f121) rfl rfl (by decide) args w⟩
theorem cal122 : Callee Try.prog 122 := ⟨fun args w => hasBody (fn := Try.f122) rfl rfl (by decide) args w⟩
theorem cal123 : Callee Try.prog 123 := ⟨fun args w => hasBody (fn := Try.f123) rfl rfl (by decide) args w⟩
theorem cal124 : Callee Try.prog 124 := ⟨fun args w => hasBody (fn := Try.f124) rfl rfl (by decide) args w⟩
theorem cal125 : Callee Try.prog 125 := ⟨fun args w => hasBody (fn := Try.f125) rfl rfl (by decide) args w⟩
theorem cal126 : Callee Try.prog 126 := ⟨fun args w => hasBody (fn := Try.f126) rfl rfl (by decide) args w⟩
theorem cal127 : Callee Try.prog 127 := ⟨fun args w => hasBody (fn := Try.f127) rfl rfl (by decide) args w⟩
theorem cal128 : Callee Try.prog 128 := ⟨fun args w => hasBody (fn := Try.f128) rfl rfl (by decide) args w⟩
theorem cal129 : Callee Try.prog 129 := ⟨fun args w => hasBody (fn := Try.f129) rfl rfl (by decide) args w⟩
theorem cal130 : Callee Try.prog 130 := ⟨fun args w => hasBody (fn := Try.f130) rfl rfl (by decide) args w⟩
theorem cal131 : Callee Try.prog 131 := ⟨fun args w => hasBody (fn := Try.f131) rfl rfl (by decide) args w⟩
theorem cal132 : Callee Try.prog 132 := ⟨fun args w => hasBody (fn := Try.f132) rfl rfl (by decide) args w⟩
theorem cal133 : Callee Try.prog 133 := ⟨fun args w => hasBody (fn := Try.f133) rfl rfl (by decide) args w⟩
theorem cal134 : Callee Try.prog 134 := ⟨fun args w => hasBody (fn := Try.f134) rfl rfl (by decide) args w⟩
theorem cal135 : Callee Try.prog 135 := ⟨fun args w => hasBody (fn := Try.f135) rfl rfl (by decide) args w⟩
theorem cal136 : Callee Try.prog 136 := ⟨fun args w => hasBody (fn := Try.f136) rfl rfl (by decide) args w⟩
theorem cal137 : Callee Try.prog 137 := ⟨fun args w => hasBody (fn := Try.f137) rfl rfl (by decide) args w⟩
theorem cal138 : Callee Try.prog 138 := ⟨fun args w => hasBody (fn := Try.f138) rfl rfl (by decide) args w⟩
theorem cal139 : Callee Try.prog 139 := ⟨fun args w => hasBody (fn := Try.f139) rfl rfl (by decide) args w⟩
theorem cal140 : Callee Try.prog 140 := ⟨fun args w => hasBody (fn := Try.f140) rfl rfl (by decide) args w⟩
theorem cal141 : Callee Try.prog 141 := ⟨fun args w => hasBody (fn := Try.f141) rfl rfl (by decide) args w⟩
theorem cal142 : Callee Try.prog 142 := ⟨fun args w => hasBody (fn := Try.f142) rfl rfl (by decide) args w⟩
theorem cal143 : Callee Try.prog 143 := ⟨fun args w => hasBody (fn := Try.f143) rfl rfl (by decide) args w⟩
theorem cal144 : Callee Try.prog 144 := ⟨fun args w => hasBody (fn := Try.f144) rfl rfl (by decide) args w⟩
theorem cal145 : Callee Try.prog 145 := ⟨fun args w => hasBody (fn := Try.f145) rfl rfl (by decide) args w⟩
theorem cal146 : Callee Try.prog 146 := ⟨fun args w => hasBody (fn := Try.f146) rfl rfl (by decide) args w⟩
theorem cal147 : Callee Try.prog 147 := ⟨fun args w => hasBody (fn := Try.f147) rfl rfl (by decide) args w⟩
theorem cal148 : Callee Try.prog 148 := ⟨fun args w => hasBody (fn := Try.f148) rfl rfl (by decide) args w⟩
theorem cal149 : Callee Try.prog 149 := ⟨fun args w => hasBody (fn := Try.f149) rfl rfl (by decide) args w⟩
theorem cal150 : Callee Try.prog 150 := ⟨fun args w => hasBody (fn := Try.f150) rfl rfl (by decide) args w⟩
theorem cal151 : Callee Try.prog 151 := ⟨fun args w => hasBody (fn := Try.f151) rfl rfl (by decide) args w⟩
theorem cal152 : Callee Try.prog 152 := ⟨fun args w => hasBody (fn := Try.f152) rfl rfl (by decide) args w⟩
theorem cal153 : Callee Try.prog 153 := ⟨fun args w => hasBody (fn := Try.f153) rfl rfl (by decide) args w⟩
theorem cal154 : Callee Try.prog 154 := ⟨fun args w => hasBody (fn := Try.f154) rfl rfl (by decide) args w⟩
theorem cal155 : Callee Try.prog 155 := ⟨fun args w => hasBody (fn := Try.f155) rfl rfl (by decide) args w⟩
theorem cal156 : Callee Try.prog 156 := ⟨fun args w => hasBody (fn := Try.f156) rfl rfl (by decide) args w⟩
theorem cal157 : Callee Try.prog 157 := ⟨fun args w => hasBody (fn := Try.f157) rfl rfl (by decide) args w⟩
theorem cal158 : Callee Try.prog 158 := ⟨fun args w => hasBody (fn := Try.f158) rfl rfl (by decide) args w⟩
theorem cal159 : Callee Try.prog 159 := ⟨fun args w => hasBody (fn := Try.f159) rfl rfl (by decide) args w⟩
theorem cal160 : Callee Try.prog 160 := ⟨fun args w => hasBody (fn := Try.f160) rfl rfl (by decide) args w⟩
theorem cal161 : Callee Try.prog 161 := ⟨fun args w => hasBody (fn := Try.f161) rfl rfl (by decide) args w⟩
theorem cal162 : Callee Try.prog 162 := ⟨fun args w => hasBody (fn := Try.f162) rfl rfl (by decide) args w⟩
theorem cal163 : Callee Try.prog 163 := ⟨fun args w => hasBody (fn := Try.f163) rfl rfl (by decide) args w⟩
theorem cal164 : Callee Try.prog 164 := ⟨fun args w => hasBody (fn := Try.f164) rfl rfl (by decide) args w⟩
theorem mixed : Try.prog.follows .mixedOrders = true := by kernel_rfl
end Go.Proofs.Ytadpcmcifbakoaa
