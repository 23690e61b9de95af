/- What operations ask of the types of this seat; what calls are. Written by a program. -/
import Derived.Test.YtoffdmkgioaohaaAmBj
import Derived.Test.YtoffdmkgioaohaaProg
import Derived.KernelRfl
namespace Go.AM
open Go.Proofs

-- MV {19:[0],20:[0],36:[0],44:[0],45:[0],62:[0],63:[0],87:[0],88:[0],90:[0],91:[0],92:[0],94:[1],123:[0],139:[0],143:[1],145:[0],146:[0],169:[0],170:[0],172:[0],193:[0],206:[0],208:[1],211:[0],212:[0],213:[0],214:[0],221:[0],225:[0,1],226:[0],254:[0]}
-- FL [90,91,92,123,145,146,169,170,172,193,211,212,213,214,221]
noncomputable def cf : Cfg where
  P := Try.prog
  mv f := ([(19, [0]), (20, [0]), (36, [0]), (44, [0]), (45, [0]), (62, [0]), (63, [0]), (87, [0]), (88, [0]), (90, [0]), (91, [0]), (92, [0]), (94, [1]), (123, [0]), (139, [0]), (143, [1]), (145, [0]), (146, [0]), (169, [0]), (170, [0]), (172, [0]), (193, [0]), (206,[0]), (208, [1]), (211, [0]), (212, [0]), (213, [0]), (214, [0]), (221,[0]), (225, [0, 1]), (226, [0]), (254,[0])].lookup f).getD []
  tk1 f := if f = 87 then [15] else if f = 36 then [16] else if f = 44 then [33] else if f = 139 then [45] else []
  tk2 f := if f = 80 then [29] else if f = 84 then [27] else if f = 208 then [74] else if f = 143 then [101] else if f = 225 then [35] else []
  fl f := [90,91,92,123,145,146,169,170,172,193,211,212,213,214,221].contains f
theorem f_tk1 (f : Nat) : cf.tk1 f = if f = 87 then [15] else if f = 36 then [16] else if f = 44 then [33] else if f = 139 then [45] else [] := rfl
theorem f_tk2 (f : Nat) : cf.tk2 f = if f = 80 then [29] else if f = 84 then [27] else if f = 208 then [74] else if f = 143 then [101] else if f = 225 then [35] else [] := rfl

theorem f_alT_3 : alT cf.P 3 = some [I 0] := by kernel_rfl
theorem f_alT_30 : alT cf.P 30 = some [.c (.slice none 0 0), .c (.slice none 0 0)] := by kernel_rfl
theorem f_alT_40 : alT cf.P 40 = some [I 0, I 0, .c (.slice none 0 0)] := by kernel_rfl
theorem f_alT_47 : alT cf.P 47 = some [I 0, I 0, I 0, .c (.string ⟨#[]⟩), .c (.slice none 0 0)] := by kernel_rfl
theorem f_alT_75 : alT cf.P 75 = some [.c (.slice none 0 0), I 0] := by kernel_rfl
theorem f_alT_93 : alT cf.P 93 = some [I 0, I 0, I 0] := by kernel_rfl
theorem f_alT_147 : alT cf.P 147 = some [.c (.string ⟨#[]⟩), .c (.bool false), .c (.slice none 0 0)] := by kernel_rfl
theorem f_alT_181 : alT cf.P 181 = some [I 0, .c (.slice none 0 0)] := by kernel_rfl
theorem f_alT_235 : alT cf.P 235 = some [.c (.pointer none), .c (.slice none 0 0)] := by kernel_rfl
theorem f_apT_22_22 : apT cf.P #[22, 22] = some (1, 24) := by kernel_rfl
theorem f_apT_23_23 : apT cf.P #[23, 23] = some (1, 1) := by kernel_rfl
theorem f_apT_27_27 : apT cf.P #[27, 27] = some (1, 8) := by kernel_rfl
theorem f_apT_37_9 : apT cf.P #[37, 9] = some (1, 1) := by kernel_rfl
theorem f_apT_37_37 : apT cf.P #[37, 37] = some (1, 1) := by kernel_rfl
theorem f_apT_38_38 : apT cf.P #[38, 38] = some (5, 64) := by kernel_rfl
theorem f_apT_56_56 : apT cf.P #[56, 56] = some (2, 32) := by kernel_rfl
theorem f_apT_63_63 : apT cf.P #[63, 63] = some (1, 16) := by kernel_rfl
theorem f_apT_66_66 : apT cf.P #[66, 66] = some (3, 48) := by kernel_rfl
theorem f_apT_88_88 : apT cf.P #[88, 88] = some (3, 24) := by kernel_rfl
theorem f_apT_182_182 : apT cf.P #[182, 182] = some (2, 32) := by kernel_rfl
theorem f_apT_192_192 : apT cf.P #[192, 192] = some (1, 24) := by kernel_rfl
theorem f_bsT_22 : bsT cf.P 22 = some (1, true, [some 1]) := by kernel_rfl
theorem f_bsT_23 : bsT cf.P 23 = some (1, true, [none]) := by kernel_rfl
theorem f_bsT_27 : bsT cf.P 27 = some (1, true, [none]) := by kernel_rfl
theorem f_bsT_37 : bsT cf.P 37 = some (1, true, [none]) := by kernel_rfl
theorem f_bsT_38 : bsT cf.P 38 = some (5, true, [none, none, none, none, some 1]) := by kernel_rfl
theorem f_bsT_56 : bsT cf.P 56 = some (2, true, [some 1, none]) := by kernel_rfl
theorem f_bsT_63 : bsT cf.P 63 = some (1, true, [none]) := by kernel_rfl
theorem f_bsT_66 : bsT cf.P 66 = some (3, true, [none, none, some 2]) := by kernel_rfl
theorem f_bsT_88 : bsT cf.P 88 = some (3, true, [none, none, none]) := by kernel_rfl
theorem f_bsT_182 : bsT cf.P 182 = some (2, true, [none, some 1]) := by kernel_rfl
theorem f_bsT_192 : bsT cf.P 192 = some (1, true, [some 1]) := by kernel_rfl
theorem f_cvT_3_5 : cvT cf.P 3 5 = some .u8 := by kernel_rfl
theorem f_cvT_3_227 : cvT cf.P 3 227 = some .u64 := by kernel_rfl
theorem f_cvT_5_3 : cvT cf.P 5 3 = some .i64 := by kernel_rfl
theorem f_cvT_37_9 : cvT cf.P 37 9 = none := by kernel_rfl
theorem f_cvT_227_3 : cvT cf.P 227 3 = some .i64 := by kernel_rfl
theorem f_cvT_233_256 : cvT cf.P 233 256 = none := by kernel_rfl
theorem f_cvT_256_233 : cvT cf.P 256 233 = none := by kernel_rfl
theorem f_elS_9 : elS cf.P 9 = none := by kernel_rfl
theorem f_elS_22 : elS cf.P 22 = some 1 := by kernel_rfl
theorem f_elS_23 : elS cf.P 23 = some 1 := by kernel_rfl
theorem f_elS_27 : elS cf.P 27 = some 1 := by kernel_rfl
theorem f_elS_37 : elS cf.P 37 = some 1 := by kernel_rfl
theorem f_elS_38 : elS cf.P 38 = some 5 := by kernel_rfl
theorem f_elS_52 : elS cf.P 52 = some 2 := by kernel_rfl
theorem f_elS_56 : elS cf.P 56 = some 2 := by kernel_rfl
theorem f_elS_61 : elS cf.P 61 = some 3 := by kernel_rfl
theorem f_elS_63 : elS cf.P 63 = some 1 := by kernel_rfl
theorem f_elS_66 : elS cf.P 66 = some 3 := by kernel_rfl
theorem f_elS_80 : elS cf.P 80 = some 5 := by kernel_rfl
theorem f_elS_83 : elS cf.P 83 = some 3 := by kernel_rfl
theorem f_elS_88 : elS cf.P 88 = some 3 := by kernel_rfl
theorem f_elS_182 : elS cf.P 182 = some 2 := by kernel_rfl
theorem f_elS_192 : elS cf.P 192 = some 1 := by kernel_rfl
theorem f_fieldT_25_0 : fieldT cf.P 25 0 = some (0, 1, false) := by kernel_rfl
theorem f_fieldT_25_1 : fieldT cf.P 25 1 = some (1, 1, false) := by kernel_rfl
theorem f_fieldT_30_0 : fieldT cf.P 30 0 = some (0, 1, false) := by kernel_rfl
theorem f_fieldT_30_1 : fieldT cf.P 30 1 = some (1, 1, false) := by kernel_rfl
theorem f_fieldT_40_0 : fieldT cf.P 40 0 = some (0, 1, false) := by kernel_rfl
theorem f_fieldT_40_1 : fieldT cf.P 40 1 = some (1, 1, false) := by kernel_rfl
theorem f_fieldT_40_2 : fieldT cf.P 40 2 = some (2, 1, false) := by kernel_rfl
theorem f_fieldT_47_0 : fieldT cf.P 47 0 = some (0, 1, false) := by kernel_rfl
theorem f_fieldT_47_1 : fieldT cf.P 47 1 = some (1, 1, false) := by kernel_rfl
theorem f_fieldT_47_2 : fieldT cf.P 47 2 = some (2, 1, false) := by kernel_rfl
theorem f_fieldT_47_3 : fieldT cf.P 47 3 = some (3, 1, false) := by kernel_rfl
theorem f_fieldT_47_4 : fieldT cf.P 47 4 = some (4, 1, false) := by kernel_rfl
theorem f_fieldT_75_0 : fieldT cf.P 75 0 = some (0, 1, false) := by kernel_rfl
theorem f_fieldT_75_1 : fieldT cf.P 75 1 = some (1, 1, false) := by kernel_rfl
theorem f_fieldT_82_0 : fieldT cf.P 82 0 = some (0, 1, false) := by kernel_rfl
theorem f_fieldT_82_1 : fieldT cf.P 82 1 = some (1, 1, false) := by kernel_rfl
theorem f_fieldT_82_2 : fieldT cf.P 82 2 = some (2, 1, false) := by kernel_rfl
theorem f_fieldT_85_0 : fieldT cf.P 85 0 = some (0, 1, false) := by kernel_rfl
theorem f_fieldT_85_1 : fieldT cf.P 85 1 = some (1, 1, false) := by kernel_rfl
theorem f_fieldT_85_2 : fieldT cf.P 85 2 = some (2, 1, false) := by kernel_rfl
theorem f_fieldT_93_0 : fieldT cf.P 93 0 = some (0, 1, false) := by kernel_rfl
theorem f_fieldT_93_1 : fieldT cf.P 93 1 = some (1, 1, false) := by kernel_rfl
theorem f_fieldT_93_2 : fieldT cf.P 93 2 = some (2, 1, false) := by kernel_rfl
theorem f_fieldT_135_0 : fieldT cf.P 135 0 = some (0, 1, false) := by kernel_rfl
theorem f_fieldT_135_1 : fieldT cf.P 135 1 = some (1, 1, false) := by kernel_rfl
theorem f_fieldT_143_0 : fieldT cf.P 143 0 = some (0, 1, false) := by kernel_rfl
theorem f_fieldT_143_1 : fieldT cf.P 143 1 = some (1, 1, false) := by kernel_rfl
theorem f_fieldT_143_2 : fieldT cf.P 143 2 = some (2, 1, false) := by kernel_rfl
theorem f_fieldT_147_0 : fieldT cf.P 147 0 = some (0, 1, false) := by kernel_rfl
theorem f_fieldT_147_1 : fieldT cf.P 147 1 = some (1, 1, false) := by kernel_rfl
theorem f_fieldT_147_2 : fieldT cf.P 147 2 = some (2, 1, false) := by kernel_rfl
theorem f_fieldT_181_0 : fieldT cf.P 181 0 = some (0, 1, false) := by kernel_rfl
theorem f_fieldT_181_1 : fieldT cf.P 181 1 = some (1, 1, false) := by kernel_rfl
theorem f_fieldT_184_0 : fieldT cf.P 184 0 = some (0, 1, false) := by kernel_rfl
theorem f_fieldT_184_1 : fieldT cf.P 184 1 = some (1, 1, false) := by kernel_rfl
theorem f_fieldT_184_2 : fieldT cf.P 184 2 = some (2, 1, false) := by kernel_rfl
theorem f_fieldT_206_0 : fieldT cf.P 206 0 = some (0, 1, false) := by kernel_rfl
theorem f_fieldT_206_1 : fieldT cf.P 206 1 = some (1, 1, false) := by kernel_rfl
theorem f_fieldT_206_2 : fieldT cf.P 206 2 = some (2, 1, false) := by kernel_rfl
theorem f_fieldT_206_3 : fieldT cf.P 206 3 = some (3, 1, false) := by kernel_rfl
theorem f_fieldT_206_4 : fieldT cf.P 206 4 = some (4, 1, false) := by kernel_rfl
theorem f_fieldT_235_0 : fieldT cf.P 235 0 = some (0, 1, false) := by kernel_rfl
theorem f_fieldT_235_1 : fieldT cf.P 235 1 = some (1, 1, false) := by kernel_rfl
theorem f_isBo_3 : isBo cf.P 3 = false := by kernel_rfl
theorem f_isBo_4 : isBo cf.P 4 = true := by kernel_rfl
theorem f_isBo_5 : isBo cf.P 5 = false := by kernel_rfl
theorem f_isBo_9 : isBo cf.P 9 = false := by kernel_rfl
theorem f_isBo_27 : isBo cf.P 27 = false := by kernel_rfl
theorem f_isBo_88 : isBo cf.P 88 = false := by kernel_rfl
theorem f_isBo_131 : isBo cf.P 131 = false := by kernel_rfl
theorem f_isBo_233 : isBo cf.P 233 = false := by kernel_rfl
theorem f_isPt_3 : isPt cf.P 3 = false := by kernel_rfl
theorem f_isPt_4 : isPt cf.P 4 = false := by kernel_rfl
theorem f_isPt_5 : isPt cf.P 5 = false := by kernel_rfl
theorem f_isPt_9 : isPt cf.P 9 = false := by kernel_rfl
theorem f_isPt_27 : isPt cf.P 27 = false := by kernel_rfl
theorem f_isPt_88 : isPt cf.P 88 = false := by kernel_rfl
theorem f_isPt_131 : isPt cf.P 131 = true := by kernel_rfl
theorem f_isPt_233 : isPt cf.P 233 = true := by kernel_rfl
theorem f_isSl_3 : isSl cf.P 3 = false := by kernel_rfl
theorem f_isSl_4 : isSl cf.P 4 = false := by kernel_rfl
theorem f_isSl_5 : isSl cf.P 5 = false := by kernel_rfl
theorem f_isSl_9 : isSl cf.P 9 = false := by kernel_rfl
theorem f_isSl_22 : isSl cf.P 22 = true := by kernel_rfl
theorem f_isSl_23 : isSl cf.P 23 = true := by kernel_rfl
theorem f_isSl_27 : isSl cf.P 27 = true := by kernel_rfl
theorem f_isSl_37 : isSl cf.P 37 = true := by kernel_rfl
theorem f_isSl_38 : isSl cf.P 38 = true := by kernel_rfl
theorem f_isSl_52 : isSl cf.P 52 = true := by kernel_rfl
theorem f_isSl_56 : isSl cf.P 56 = true := by kernel_rfl
theorem f_isSl_61 : isSl cf.P 61 = true := by kernel_rfl
theorem f_isSl_63 : isSl cf.P 63 = true := by kernel_rfl
theorem f_isSl_66 : isSl cf.P 66 = true := by kernel_rfl
theorem f_isSl_80 : isSl cf.P 80 = true := by kernel_rfl
theorem f_isSl_83 : isSl cf.P 83 = true := by kernel_rfl
theorem f_isSl_88 : isSl cf.P 88 = true := by kernel_rfl
theorem f_isSl_127 : isSl cf.P 127 = false := by kernel_rfl
theorem f_isSl_131 : isSl cf.P 131 = false := by kernel_rfl
theorem f_isSl_182 : isSl cf.P 182 = true := by kernel_rfl
theorem f_isSl_192 : isSl cf.P 192 = true := by kernel_rfl
theorem f_isSl_233 : isSl cf.P 233 = false := by kernel_rfl
theorem f_layT_3 : layT cf.P 8 3 = [none] := by kernel_rfl
theorem f_layT_4 : layT cf.P 8 4 = [none] := by kernel_rfl
theorem f_layT_5 : layT cf.P 8 5 = [none] := by kernel_rfl
theorem f_layT_9 : layT cf.P 8 9 = [none] := by kernel_rfl
theorem f_layT_22 : layT cf.P 8 22 = [some 1] := by kernel_rfl
theorem f_layT_23 : layT cf.P 8 23 = [some 1] := by kernel_rfl
theorem f_layT_25 : layT cf.P 8 25 = [some 1, some 1] := by kernel_rfl
theorem f_layT_27 : layT cf.P 8 27 = [some 1] := by kernel_rfl
theorem f_layT_30 : layT cf.P 8 30 = [some 1, some 1] := by kernel_rfl
theorem f_layT_32 : layT cf.P 8 32 = [none] := by kernel_rfl
theorem f_layT_37 : layT cf.P 8 37 = [some 1] := by kernel_rfl
theorem f_layT_38 : layT cf.P 8 38 = [some 5] := by kernel_rfl
theorem f_layT_40 : layT cf.P 8 40 = [none, none, some 5] := by kernel_rfl
theorem f_layT_47 : layT cf.P 8 47 = [none, none, none, none, some 1] := by kernel_rfl
theorem f_layT_52 : layT cf.P 8 52 = [some 2] := by kernel_rfl
theorem f_layT_56 : layT cf.P 8 56 = [some 2] := by kernel_rfl
theorem f_layT_61 : layT cf.P 8 61 = [some 3] := by kernel_rfl
theorem f_layT_63 : layT cf.P 8 63 = [some 1] := by kernel_rfl
theorem f_layT_66 : layT cf.P 8 66 = [some 3] := by kernel_rfl
theorem f_layT_75 : layT cf.P 8 75 = [some 1, none] := by kernel_rfl
theorem f_layT_80 : layT cf.P 8 80 = [some 5] := by kernel_rfl
theorem f_layT_82 : layT cf.P 8 82 = [none, none, some 5] := by kernel_rfl
theorem f_layT_83 : layT cf.P 8 83 = [some 3] := by kernel_rfl
theorem f_layT_85 : layT cf.P 8 85 = [none, none, none] := by kernel_rfl
theorem f_layT_88 : layT cf.P 8 88 = [some 3] := by kernel_rfl
theorem f_layT_93 : layT cf.P 8 93 = [none, none, none] := by kernel_rfl
theorem f_layT_120 : layT cf.P 8 120 = [none] := by kernel_rfl
theorem f_layT_128 : layT cf.P 8 128 = [none] := by kernel_rfl
theorem f_layT_135 : layT cf.P 8 135 = [some 1, none] := by kernel_rfl
theorem f_layT_143 : layT cf.P 8 143 = [none, none, some 2] := by kernel_rfl
theorem f_layT_147 : layT cf.P 8 147 = [none, none, some 2] := by kernel_rfl
theorem f_layT_152 : layT cf.P 8 152 = [none] := by kernel_rfl
theorem f_layT_168 : layT cf.P 8 168 = [none] := by kernel_rfl
theorem f_layT_181 : layT cf.P 8 181 = [none, some 1] := by kernel_rfl
theorem f_layT_189 : layT cf.P 8 189 = [none] := by kernel_rfl
theorem f_layT_192 : layT cf.P 8 192 = [some 1] := by kernel_rfl
theorem f_layT_197 : layT cf.P 8 197 = [none] := by kernel_rfl
theorem f_layT_206 : layT cf.P 8 206 = [none, none, none, none, some 1] := by kernel_rfl
theorem f_layT_210 : layT cf.P 8 210 = [none] := by kernel_rfl
theorem f_layT_232 : layT cf.P 8 232 = [none] := by kernel_rfl
theorem f_layT_233 : layT cf.P 8 233 = [none] := by kernel_rfl
theorem f_layT_250 : layT cf.P 8 250 = [none] := by kernel_rfl
theorem f_mkT_22 : mkT cf.P 22 = some (1, 24, [.tr Go.AM.Tag.im 1 []]) := by kernel_rfl
theorem f_mkT_23 : mkT cf.P 23 = some (1, 1, [.c (.bool false)]) := by kernel_rfl
theorem f_mkT_27 : mkT cf.P 27 = some (1, 8, [I 0]) := by kernel_rfl
theorem f_mkT_38 : mkT cf.P 38 = some (5, 64, [I 0, I 0, I 0, .c (.string ⟨#[]⟩), .tr Go.AM.Tag.im 1 []]) := by kernel_rfl
theorem f_mkT_56 : mkT cf.P 56 = some (2, 32, [.tr Go.AM.Tag.im 1 [], I 0]) := by kernel_rfl
theorem f_mkT_66 : mkT cf.P 66 = some (3, 48, [.c (.string ⟨#[]⟩), .c (.bool false), .tr Go.AM.Tag.im 2 []]) := by kernel_rfl
theorem f_mkT_88 : mkT cf.P 88 = some (3, 24, [I 0, I 0, I 0]) := by kernel_rfl
theorem f_sizeT_3 : sizeT cf.P 3 = some 1 := by kernel_rfl
theorem f_sizeT_4 : sizeT cf.P 4 = some 1 := by kernel_rfl
theorem f_sizeT_9 : sizeT cf.P 9 = some 1 := by kernel_rfl
theorem f_sizeT_22 : sizeT cf.P 22 = some 1 := by kernel_rfl
theorem f_sizeT_23 : sizeT cf.P 23 = some 1 := by kernel_rfl
theorem f_sizeT_27 : sizeT cf.P 27 = some 1 := by kernel_rfl
theorem f_sizeT_30 : sizeT cf.P 30 = some 2 := by kernel_rfl
theorem f_sizeT_37 : sizeT cf.P 37 = some 1 := by kernel_rfl
theorem f_sizeT_38 : sizeT cf.P 38 = some 1 := by kernel_rfl
theorem f_sizeT_40 : sizeT cf.P 40 = some 3 := by kernel_rfl
theorem f_sizeT_47 : sizeT cf.P 47 = some 5 := by kernel_rfl
theorem f_sizeT_56 : sizeT cf.P 56 = some 1 := by kernel_rfl
theorem f_sizeT_75 : sizeT cf.P 75 = some 2 := by kernel_rfl
theorem f_sizeT_93 : sizeT cf.P 93 = some 3 := by kernel_rfl
theorem f_sizeT_147 : sizeT cf.P 147 = some 3 := by kernel_rfl
theorem f_sizeT_181 : sizeT cf.P 181 = some 2 := by kernel_rfl
theorem f_sizeT_233 : sizeT cf.P 233 = some 1 := by kernel_rfl
theorem f_stringT_3 : stringT cf.P 3 = false := by kernel_rfl
theorem f_stringT_5 : stringT cf.P 5 = false := by kernel_rfl
theorem f_stringT_9 : stringT cf.P 9 = true := by kernel_rfl
theorem f_stringT_22 : stringT cf.P 22 = false := by kernel_rfl
theorem f_stringT_23 : stringT cf.P 23 = false := by kernel_rfl
theorem f_stringT_27 : stringT cf.P 27 = false := by kernel_rfl
theorem f_stringT_37 : stringT cf.P 37 = false := by kernel_rfl
theorem f_stringT_38 : stringT cf.P 38 = false := by kernel_rfl
theorem f_stringT_52 : stringT cf.P 52 = false := by kernel_rfl
theorem f_stringT_56 : stringT cf.P 56 = false := by kernel_rfl
theorem f_stringT_61 : stringT cf.P 61 = false := by kernel_rfl
theorem f_stringT_63 : stringT cf.P 63 = false := by kernel_rfl
theorem f_stringT_66 : stringT cf.P 66 = false := by kernel_rfl
theorem f_stringT_80 : stringT cf.P 80 = false := by kernel_rfl
theorem f_stringT_83 : stringT cf.P 83 = false := by kernel_rfl
theorem f_stringT_88 : stringT cf.P 88 = false := by kernel_rfl
theorem f_stringT_127 : stringT cf.P 127 = false := by kernel_rfl
theorem f_stringT_182 : stringT cf.P 182 = false := by kernel_rfl
theorem f_stringT_192 : stringT cf.P 192 = false := by kernel_rfl
theorem f_stringT_227 : stringT cf.P 227 = false := by kernel_rfl
theorem f_stringT_233 : stringT cf.P 233 = false := by kernel_rfl
theorem f_stringT_256 : stringT cf.P 256 = false := by kernel_rfl
theorem f_structT_30 : structT cf.P 30 = some [.c (.slice none 0 0), .c (.slice none 0 0)] := by kernel_rfl
theorem f_structT_40 : structT cf.P 40 = some [I 0, I 0, .c (.slice none 0 0)] := by kernel_rfl
theorem f_structT_47 : structT cf.P 47 = some [I 0, I 0, I 0, .c (.string ⟨#[]⟩), .c (.slice none 0 0)] := by kernel_rfl
theorem f_structT_75 : structT cf.P 75 = some [.c (.slice none 0 0), I 0] := by kernel_rfl
theorem f_structT_93 : structT cf.P 93 = some [I 0, I 0, I 0] := by kernel_rfl
theorem f_structT_147 : structT cf.P 147 = some [.c (.string ⟨#[]⟩), .c (.bool false), .c (.slice none 0 0)] := by kernel_rfl
theorem f_structT_181 : structT cf.P 181 = some [I 0, .c (.slice none 0 0)] := by kernel_rfl
theorem f_structT_184 : structT cf.P 184 = some [.c (.slice none 0 0), I 0, I 0] := by kernel_rfl
theorem f_tsT_3_5 : tsT cf.P 3 5 = false := by kernel_rfl
theorem f_tsT_3_227 : tsT cf.P 3 227 = false := by kernel_rfl
theorem f_tsT_5_3 : tsT cf.P 5 3 = false := by kernel_rfl
theorem f_tsT_37_9 : tsT cf.P 37 9 = true := by kernel_rfl
theorem f_tsT_227_3 : tsT cf.P 227 3 = false := by kernel_rfl
theorem f_tsT_233_256 : tsT cf.P 233 256 = false := by kernel_rfl
theorem f_tsT_256_233 : tsT cf.P 256 233 = false := by kernel_rfl
theorem f_tyL_3 : tyL cf.P 3 = some (1, false) := by kernel_rfl
theorem f_tyL_4 : tyL cf.P 4 = some (1, false) := by kernel_rfl
theorem f_tyL_5 : tyL cf.P 5 = some (1, false) := by kernel_rfl
theorem f_tyL_9 : tyL cf.P 9 = some (1, false) := by kernel_rfl
theorem f_tyL_22 : tyL cf.P 22 = some (1, false) := by kernel_rfl
theorem f_tyL_23 : tyL cf.P 23 = some (1, false) := by kernel_rfl
theorem f_tyL_25 : tyL cf.P 25 = some (2, true) := by kernel_rfl
theorem f_tyL_27 : tyL cf.P 27 = some (1, false) := by kernel_rfl
theorem f_tyL_30 : tyL cf.P 30 = some (2, true) := by kernel_rfl
theorem f_tyL_37 : tyL cf.P 37 = some (1, false) := by kernel_rfl
theorem f_tyL_38 : tyL cf.P 38 = some (1, false) := by kernel_rfl
theorem f_tyL_40 : tyL cf.P 40 = some (3, true) := by kernel_rfl
theorem f_tyL_47 : tyL cf.P 47 = some (5, true) := by kernel_rfl
theorem f_tyL_52 : tyL cf.P 52 = some (1, false) := by kernel_rfl
theorem f_tyL_56 : tyL cf.P 56 = some (1, false) := by kernel_rfl
theorem f_tyL_75 : tyL cf.P 75 = some (2, true) := by kernel_rfl
theorem f_tyL_80 : tyL cf.P 80 = some (1, false) := by kernel_rfl
theorem f_tyL_82 : tyL cf.P 82 = some (3, true) := by kernel_rfl
theorem f_tyL_85 : tyL cf.P 85 = some (3, true) := by kernel_rfl
theorem f_tyL_93 : tyL cf.P 93 = some (3, true) := by kernel_rfl
theorem f_tyL_135 : tyL cf.P 135 = some (2, true) := by kernel_rfl
theorem f_tyL_143 : tyL cf.P 143 = some (3, true) := by kernel_rfl
theorem f_tyL_147 : tyL cf.P 147 = some (3, true) := by kernel_rfl
theorem f_tyL_181 : tyL cf.P 181 = some (2, true) := by kernel_rfl
theorem f_tyL_206 : tyL cf.P 206 = some (5, true) := by kernel_rfl
theorem f_tyL_233 : tyL cf.P 233 = some (1, false) := by kernel_rfl
theorem f_P : cf.P = Try.prog := rfl
theorem f_undS_3 : (cf.P.underlying 3).isSome = true := by kernel_rfl
theorem f_undS_4 : (cf.P.underlying 4).isSome = true := by kernel_rfl
theorem f_undS_5 : (cf.P.underlying 5).isSome = true := by kernel_rfl
theorem f_undS_9 : (cf.P.underlying 9).isSome = true := by kernel_rfl
theorem f_undS_22 : (cf.P.underlying 22).isSome = true := by kernel_rfl
theorem f_undS_23 : (cf.P.underlying 23).isSome = true := by kernel_rfl
theorem f_undS_25 : (cf.P.underlying 25).isSome = true := by kernel_rfl
theorem f_undS_27 : (cf.P.underlying 27).isSome = true := by kernel_rfl
theorem f_undS_30 : (cf.P.underlying 30).isSome = true := by kernel_rfl
theorem f_undS_32 : (cf.P.underlying 32).isSome = true := by kernel_rfl
theorem f_undS_37 : (cf.P.underlying 37).isSome = true := by kernel_rfl
theorem f_undS_38 : (cf.P.underlying 38).isSome = true := by kernel_rfl
theorem f_undS_40 : (cf.P.underlying 40).isSome = true := by kernel_rfl
theorem f_undS_47 : (cf.P.underlying 47).isSome = true := by kernel_rfl
theorem f_undS_52 : (cf.P.underlying 52).isSome = true := by kernel_rfl
theorem f_undS_56 : (cf.P.underlying 56).isSome = true := by kernel_rfl
theorem f_undS_61 : (cf.P.underlying 61).isSome = true := by kernel_rfl
theorem f_undS_63 : (cf.P.underlying 63).isSome = true := by kernel_rfl
theorem f_undS_66 : (cf.P.underlying 66).isSome = true := by kernel_rfl
theorem f_undS_75 : (cf.P.underlying 75).isSome = true := by kernel_rfl
theorem f_undS_80 : (cf.P.underlying 80).isSome = true := by kernel_rfl
theorem f_undS_82 : (cf.P.underlying 82).isSome = true := by kernel_rfl
theorem f_undS_83 : (cf.P.underlying 83).isSome = true := by kernel_rfl
theorem f_undS_85 : (cf.P.underlying 85).isSome = true := by kernel_rfl
theorem f_undS_88 : (cf.P.underlying 88).isSome = true := by kernel_rfl
theorem f_undS_93 : (cf.P.underlying 93).isSome = true := by kernel_rfl
theorem f_und_120 : cf.P.underlying 120 = some (Go.TypeDesc.pointer 184) := by kernel_rfl
theorem f_undS_120 : (cf.P.underlying 120).isSome = true := by kernel_rfl
theorem f_und_127 : cf.P.underlying 127 = some (Go.TypeDesc.map 3 4) := by kernel_rfl
theorem f_undS_127 : (cf.P.underlying 127).isSome = true := by kernel_rfl
theorem f_undS_128 : (cf.P.underlying 128).isSome = true := by kernel_rfl
theorem f_undS_135 : (cf.P.underlying 135).isSome = true := by kernel_rfl
theorem f_undS_143 : (cf.P.underlying 143).isSome = true := by kernel_rfl
theorem f_undS_147 : (cf.P.underlying 147).isSome = true := by kernel_rfl
theorem f_undS_152 : (cf.P.underlying 152).isSome = true := by kernel_rfl
theorem f_und_168 : cf.P.underlying 168 = some (Go.TypeDesc.pointer 40) := by kernel_rfl
theorem f_undS_168 : (cf.P.underlying 168).isSome = true := by kernel_rfl
theorem f_undS_189 : (cf.P.underlying 189).isSome = true := by kernel_rfl
theorem f_undS_192 : (cf.P.underlying 192).isSome = true := by kernel_rfl
theorem f_undS_197 : (cf.P.underlying 197).isSome = true := by kernel_rfl
theorem f_undS_206 : (cf.P.underlying 206).isSome = true := by kernel_rfl
theorem f_undS_210 : (cf.P.underlying 210).isSome = true := by kernel_rfl
theorem f_und_224 : cf.P.underlying 224 = some (Go.TypeDesc.map 3 3) := by kernel_rfl
theorem f_undS_224 : (cf.P.underlying 224).isSome = true := by kernel_rfl
theorem f_undS_227 : (cf.P.underlying 227).isSome = true := by kernel_rfl
theorem f_undS_232 : (cf.P.underlying 232).isSome = true := by kernel_rfl
theorem f_und_233 : cf.P.underlying 233 = some (Go.TypeDesc.pointer 235) := by kernel_rfl
theorem f_undS_233 : (cf.P.underlying 233).isSome = true := by kernel_rfl
theorem f_undS_250 : (cf.P.underlying 250).isSome = true := by kernel_rfl
theorem f_undS_256 : (cf.P.underlying 256).isSome = true := by kernel_rfl

theorem factsE : type_of% (And.intro (And.intro (And.intro (And.intro (And.intro (And.intro (And.intro (And.intro @f_alT_3 @f_alT_30) (And.intro @f_alT_40 @f_alT_47)) (And.intro (And.intro @f_alT_75 @f_alT_93) (And.intro @f_alT_147 (And.intro @f_alT_181 @f_alT_235)))) (And.intro (And.intro (And.intro @f_apT_22_22 @f_apT_23_23) (And.intro @f_apT_27_27 (And.intro @f_apT_37_9 @f_apT_37_37))) (And.intro (And.intro @f_apT_38_38 @f_apT_56_56) (And.intro @f_apT_63_63 (And.intro @f_apT_66_66 @f_apT_88_88))))) (And.intro (And.intro (And.intro (And.intro @f_apT_182_182 @f_apT_192_192) (And.intro @f_bsT_22 (And.intro @f_bsT_23 @f_bsT_27))) (And.intro (And.intro @f_bsT_37 @f_bsT_38) (And.intro @f_bsT_56 (And.intro @f_bsT_63 @f_bsT_66)))) (And.intro (And.intro (And.intro @f_bsT_88 @f_bsT_182) (And.intro @f_bsT_192 (And.intro @f_cvT_3_5 @f_cvT_3_227))) (And.intro (And.intro @f_cvT_5_3 @f_cvT_37_9) (And.intro @f_cvT_227_3 (And.intro @f_cvT_233_256 @f_cvT_256_233)))))) (And.intro (And.intro (And.intro (And.intro (And.intro @f_elS_9 @f_elS_22) (And.intro @f_elS_23 (And.intro @f_elS_27 @f_elS_37))) (And.intro (And.intro @f_elS_38 @f_elS_52) (And.intro @f_elS_56 (And.intro @f_elS_61 @f_elS_63)))) (And.intro (And.intro (And.intro @f_elS_66 @f_elS_80) (And.intro @f_elS_83 (And.intro @f_elS_88 @f_elS_182))) (And.intro (And.intro @f_elS_192 @f_fieldT_25_0) (And.intro @f_fieldT_25_1 (And.intro @f_fieldT_30_0 @f_fieldT_30_1))))) (And.intro (And.intro (And.intro (And.intro @f_fieldT_40_0 @f_fieldT_40_1) (And.intro @f_fieldT_40_2 (And.intro @f_fieldT_47_0 @f_fieldT_47_1))) (And.intro (And.intro @f_fieldT_47_2 @f_fieldT_47_3) (And.intro @f_fieldT_47_4 (And.intro @f_fieldT_75_0 @f_fieldT_75_1)))) (And.intro (And.intro (And.intro @f_fieldT_82_0 @f_fieldT_82_1) (And.intro @f_fieldT_82_2 (And.intro @f_fieldT_85_0 @f_fieldT_85_1))) (And.intro (And.intro @f_fieldT_85_2 @f_fieldT_93_0) (And.intro @f_fieldT_93_1 (And.intro @f_fieldT_93_2 @f_fieldT_135_0))))))) (And.intro (And.intro (And.intro (And.intro (And.intro (And.intro @f_fieldT_135_1 @f_fieldT_143_0) (And.intro @f_fieldT_143_1 @f_fieldT_143_2)) (And.intro (And.intro @f_fieldT_147_0 @f_fieldT_147_1) (And.intro @f_fieldT_147_2 (And.intro @f_fieldT_181_0 @f_fieldT_181_1)))) (And.intro (And.intro (And.intro @f_fieldT_184_0 @f_fieldT_184_1) (And.intro @f_fieldT_184_2 (And.intro @f_fieldT_206_0 @f_fieldT_206_1))) (And.intro (And.intro @f_fieldT_206_2 @f_fieldT_206_3) (And.intro @f_fieldT_206_4 (And.intro @f_fieldT_235_0 @f_fieldT_235_1))))) (And.intro (And.intro (And.intro (And.intro @f_isBo_3 @f_isBo_4) (And.intro @f_isBo_5 (And.intro @f_isBo_9 @f_isBo_27))) (And.intro (And.intro @f_isBo_88 @f_isBo_131) (And.intro @f_isBo_233 (And.intro @f_isPt_3 @f_isPt_4)))) (And.intro (And.intro (And.intro @f_isPt_5 @f_isPt_9) (And.intro @f_isPt_27 (And.intro @f_isPt_88 @f_isPt_131))) (And.intro (And.intro @f_isPt_233 @f_isSl_3) (And.intro @f_isSl_4 (And.intro @f_isSl_5 @f_isSl_9)))))) (And.intro (And.intro (And.intro (And.intro (And.intro @f_isSl_22 @f_isSl_23) (And.intro @f_isSl_27 (And.intro @f_isSl_37 @f_isSl_38))) (And.intro (And.intro @f_isSl_52 @f_isSl_56) (And.intro @f_isSl_61 (And.intro @f_isSl_63 @f_isSl_66)))) (And.intro (And.intro (And.intro @f_isSl_80 @f_isSl_83) (And.intro @f_isSl_88 (And.intro @f_isSl_127 @f_isSl_131))) (And.intro (And.intro @f_isSl_182 @f_isSl_192) (And.intro @f_isSl_233 (And.intro @f_layT_3 @f_layT_4))))) (And.intro (And.intro (And.intro (And.intro @f_layT_5 @f_layT_9) (And.intro @f_layT_22 (And.intro @f_layT_23 @f_layT_25))) (And.intro (And.intro @f_layT_27 @f_layT_30) (And.intro @f_layT_32 (And.intro @f_layT_37 @f_layT_38)))) (And.intro (And.intro (And.intro @f_layT_40 @f_layT_47) (And.intro @f_layT_52 (And.intro @f_layT_56 @f_layT_61))) (And.intro (And.intro @f_layT_63 @f_layT_66) (And.intro @f_layT_75 (And.intro @f_layT_80 @f_layT_82)))))))) (And.intro (And.intro (And.intro (And.intro (And.intro (And.intro (And.intro @f_layT_83 @f_layT_85) (And.intro @f_layT_88 @f_layT_93)) (And.intro (And.intro @f_layT_120 @f_layT_128) (And.intro @f_layT_135 (And.intro @f_layT_143 @f_layT_147)))) (And.intro (And.intro (And.intro @f_layT_152 @f_layT_168) (And.intro @f_layT_181 (And.intro @f_layT_189 @f_layT_192))) (And.intro (And.intro @f_layT_197 @f_layT_206) (And.intro @f_layT_210 (And.intro @f_layT_232 @f_layT_233))))) (And.intro (And.intro (And.intro (And.intro @f_layT_250 @f_mkT_22) (And.intro @f_mkT_23 (And.intro @f_mkT_27 @f_mkT_38))) (And.intro (And.intro @f_mkT_56 @f_mkT_66) (And.intro @f_mkT_88 (And.intro @f_sizeT_3 @f_sizeT_4)))) (And.intro (And.intro (And.intro @f_sizeT_9 @f_sizeT_22) (And.intro @f_sizeT_23 (And.intro @f_sizeT_27 @f_sizeT_30))) (And.intro (And.intro @f_sizeT_37 @f_sizeT_38) (And.intro @f_sizeT_40 (And.intro @f_sizeT_47 @f_sizeT_56)))))) (And.intro (And.intro (And.intro (And.intro (And.intro @f_sizeT_75 @f_sizeT_93) (And.intro @f_sizeT_147 (And.intro @f_sizeT_181 @f_sizeT_233))) (And.intro (And.intro @f_stringT_3 @f_stringT_5) (And.intro @f_stringT_9 (And.intro @f_stringT_22 @f_stringT_23)))) (And.intro (And.intro (And.intro @f_stringT_27 @f_stringT_37) (And.intro @f_stringT_38 (And.intro @f_stringT_52 @f_stringT_56))) (And.intro (And.intro @f_stringT_61 @f_stringT_63) (And.intro @f_stringT_66 (And.intro @f_stringT_80 @f_stringT_83))))) (And.intro (And.intro (And.intro (And.intro @f_stringT_88 @f_stringT_127) (And.intro @f_stringT_182 (And.intro @f_stringT_192 @f_stringT_227))) (And.intro (And.intro @f_stringT_233 @f_stringT_256) (And.intro @f_structT_30 (And.intro @f_structT_40 @f_structT_47)))) (And.intro (And.intro (And.intro @f_structT_75 @f_structT_93) (And.intro @f_structT_147 (And.intro @f_structT_181 @f_structT_184))) (And.intro (And.intro @f_tsT_3_5 @f_tsT_3_227) (And.intro @f_tsT_5_3 (And.intro @f_tsT_37_9 @f_tsT_227_3))))))) (And.intro (And.intro (And.intro (And.intro (And.intro (And.intro @f_tsT_233_256 @f_tsT_256_233) (And.intro @f_tyL_3 (And.intro @f_tyL_4 @f_tyL_5))) (And.intro (And.intro @f_tyL_9 @f_tyL_22) (And.intro @f_tyL_23 (And.intro @f_tyL_25 @f_tyL_27)))) (And.intro (And.intro (And.intro @f_tyL_30 @f_tyL_37) (And.intro @f_tyL_38 (And.intro @f_tyL_40 @f_tyL_47))) (And.intro (And.intro @f_tyL_52 @f_tyL_56) (And.intro @f_tyL_75 (And.intro @f_tyL_80 @f_tyL_82))))) (And.intro (And.intro (And.intro (And.intro @f_tyL_85 @f_tyL_93) (And.intro @f_tyL_135 (And.intro @f_tyL_143 @f_tyL_147))) (And.intro (And.intro @f_tyL_181 @f_tyL_206) (And.intro @f_tyL_233 (And.intro @f_undS_3 @f_undS_4)))) (And.intro (And.intro (And.intro @f_undS_5 @f_undS_9) (And.intro @f_undS_22 (And.intro @f_undS_23 @f_undS_25))) (And.intro (And.intro @f_undS_27 @f_undS_30) (And.intro @f_undS_32 (And.intro @f_undS_37 @f_undS_38)))))) (And.intro (And.intro (And.intro (And.intro (And.intro @f_undS_40 @f_undS_47) (And.intro @f_undS_52 (And.intro @f_undS_56 @f_undS_61))) (And.intro (And.intro @f_undS_63 @f_undS_66) (And.intro @f_undS_75 (And.intro @f_undS_80 @f_undS_82)))) (And.intro (And.intro (And.intro @f_undS_83 @f_undS_85) (And.intro @f_undS_88 (And.intro @f_undS_93 @f_und_120))) (And.intro (And.intro @f_undS_120 @f_und_127) (And.intro @f_undS_127 (And.intro @f_undS_128 @f_undS_135))))) (And.intro (And.intro (And.intro (And.intro @f_undS_143 @f_undS_147) (And.intro @f_undS_152 (And.intro @f_und_168 @f_undS_168))) (And.intro (And.intro @f_undS_189 @f_undS_192) (And.intro @f_undS_197 (And.intro @f_undS_206 @f_undS_210)))) (And.intro (And.intro (And.intro @f_und_224 @f_undS_224) (And.intro @f_undS_227 (And.intro @f_undS_232 @f_und_233))) (And.intro (And.intro @f_undS_233 @f_undS_250) (And.intro @f_undS_256 (And.intro @f_tk1 @f_tk2))))))))) :=
  (And.intro (And.intro (And.intro (And.intro (And.intro (And.intro (And.intro (And.intro @f_alT_3 @f_alT_30) (And.intro @f_alT_40 @f_alT_47)) (And.intro (And.intro @f_alT_75 @f_alT_93) (And.intro @f_alT_147 (And.intro @f_alT_181 @f_alT_235)))) (And.intro (And.intro (And.intro @f_apT_22_22 @f_apT_23_23) (And.intro @f_apT_27_27 (And.intro @f_apT_37_9 @f_apT_37_37))) (And.intro (And.intro @f_apT_38_38 @f_apT_56_56) (And.intro @f_apT_63_63 (And.intro @f_apT_66_66 @f_apT_88_88))))) (And.intro (And.intro (And.intro (And.intro @f_apT_182_182 @f_apT_192_192) (And.intro @f_bsT_22 (And.intro @f_bsT_23 @f_bsT_27))) (And.intro (And.intro @f_bsT_37 @f_bsT_38) (And.intro @f_bsT_56 (And.intro @f_bsT_63 @f_bsT_66)))) (And.intro (And.intro (And.intro @f_bsT_88 @f_bsT_182) (And.intro @f_bsT_192 (And.intro @f_cvT_3_5 @f_cvT_3_227))) (And.intro (And.intro @f_cvT_5_3 @f_cvT_37_9) (And.intro @f_cvT_227_3 (And.intro @f_cvT_233_256 @f_cvT_256_233)))))) (And.intro (And.intro (And.intro (And.intro (And.intro @f_elS_9 @f_elS_22) (And.intro @f_elS_23 (And.intro @f_elS_27 @f_elS_37))) (And.intro (And.intro @f_elS_38 @f_elS_52) (And.intro @f_elS_56 (And.intro @f_elS_61 @f_elS_63)))) (And.intro (And.intro (And.intro @f_elS_66 @f_elS_80) (And.intro @f_elS_83 (And.intro @f_elS_88 @f_elS_182))) (And.intro (And.intro @f_elS_192 @f_fieldT_25_0) (And.intro @f_fieldT_25_1 (And.intro @f_fieldT_30_0 @f_fieldT_30_1))))) (And.intro (And.intro (And.intro (And.intro @f_fieldT_40_0 @f_fieldT_40_1) (And.intro @f_fieldT_40_2 (And.intro @f_fieldT_47_0 @f_fieldT_47_1))) (And.intro (And.intro @f_fieldT_47_2 @f_fieldT_47_3) (And.intro @f_fieldT_47_4 (And.intro @f_fieldT_75_0 @f_fieldT_75_1)))) (And.intro (And.intro (And.intro @f_fieldT_82_0 @f_fieldT_82_1) (And.intro @f_fieldT_82_2 (And.intro @f_fieldT_85_0 @f_fieldT_85_1))) (And.intro (And.intro @f_fieldT_85_2 @f_fieldT_93_0) (And.intro @f_fieldT_93_1 (And.intro @f_fieldT_93_2 @f_fieldT_135_0))))))) (And.intro (And.intro (And.intro (And.intro (And.intro (And.intro @f_fieldT_135_1 @f_fieldT_143_0) (And.intro @f_fieldT_143_1 @f_fieldT_143_2)) (And.intro (And.intro @f_fieldT_147_0 @f_fieldT_147_1) (And.intro @f_fieldT_147_2 (And.intro @f_fieldT_181_0 @f_fieldT_181_1)))) (And.intro (And.intro (And.intro @f_fieldT_184_0 @f_fieldT_184_1) (And.intro @f_fieldT_184_2 (And.intro @f_fieldT_206_0 @f_fieldT_206_1))) (And.intro (And.intro @f_fieldT_206_2 @f_fieldT_206_3) (And.intro @f_fieldT_206_4 (And.intro @f_fieldT_235_0 @f_fieldT_235_1))))) (And.intro (And.intro (And.intro (And.intro @f_isBo_3 @f_isBo_4) (And.intro @f_isBo_5 (And.intro @f_isBo_9 @f_isBo_27))) (And.intro (And.intro @f_isBo_88 @f_isBo_131) (And.intro @f_isBo_233 (And.intro @f_isPt_3 @f_isPt_4)))) (And.intro (And.intro (And.intro @f_isPt_5 @f_isPt_9) (And.intro @f_isPt_27 (And.intro @f_isPt_88 @f_isPt_131))) (And.intro (And.intro @f_isPt_233 @f_isSl_3) (And.intro @f_isSl_4 (And.intro @f_isSl_5 @f_isSl_9)))))) (And.intro (And.intro (And.intro (And.intro (And.intro @f_isSl_22 @f_isSl_23) (And.intro @f_isSl_27 (And.intro @f_isSl_37 @f_isSl_38))) (And.intro (And.intro @f_isSl_52 @f_isSl_56) (And.intro @f_isSl_61 (And.intro @f_isSl_63 @f_isSl_66)))) (And.intro (And.intro (And.intro @f_isSl_80 @f_isSl_83) (And.intro @f_isSl_88 (And.intro @f_isSl_127 @f_isSl_131))) (And.intro (And.intro @f_isSl_182 @f_isSl_192) (And.intro @f_isSl_233 (And.intro @f_layT_3 @f_layT_4))))) (And.intro (And.intro (And.intro (And.intro @f_layT_5 @f_layT_9) (And.intro @f_layT_22 (And.intro @f_layT_23 @f_layT_25))) (And.intro (And.intro @f_layT_27 @f_layT_30) (And.intro @f_layT_32 (And.intro @f_layT_37 @f_layT_38)))) (And.intro (And.intro (And.intro @f_layT_40 @f_layT_47) (And.intro @f_layT_52 (And.intro @f_layT_56 @f_layT_61))) (And.intro (And.intro @f_layT_63 @f_layT_66) (And.intro @f_layT_75 (And.intro @f_layT_80 @f_layT_82)))))))) (And.intro (And.intro (And.intro (And.intro (And.intro (And.intro (And.intro @f_layT_83 @f_layT_85) (And.intro @f_layT_88 @f_layT_93)) (And.intro (And.intro @f_layT_120 @f_layT_128) (And.intro @f_layT_135 (And.intro @f_layT_143 @f_layT_147)))) (And.intro (And.intro (And.intro @f_layT_152 @f_layT_168) (And.intro @f_layT_181 (And.intro @f_layT_189 @f_layT_192))) (And.intro (And.intro @f_layT_197 @f_layT_206) (And.intro @f_layT_210 (And.intro @f_layT_232 @f_layT_233))))) (And.intro (And.intro (And.intro (And.intro @f_layT_250 @f_mkT_22) (And.intro @f_mkT_23 (And.intro @f_mkT_27 @f_mkT_38))) (And.intro (And.intro @f_mkT_56 @f_mkT_66) (And.intro @f_mkT_88 (And.intro @f_sizeT_3 @f_sizeT_4)))) (And.intro (And.intro (And.intro @f_sizeT_9 @f_sizeT_22) (And.intro @f_sizeT_23 (And.intro @f_sizeT_27 @f_sizeT_30))) (And.intro (And.intro @f_sizeT_37 @f_sizeT_38) (And.intro @f_sizeT_40 (And.intro @f_sizeT_47 @f_sizeT_56)))))) (And.intro (And.intro (And.intro (And.intro (And.intro @f_sizeT_75 @f_sizeT_93) (And.intro @f_sizeT_147 (And.intro @f_sizeT_181 @f_sizeT_233))) (And.intro (And.intro @f_stringT_3 @f_stringT_5) (And.intro @f_stringT_9 (And.intro @f_stringT_22 @f_stringT_23)))) (And.intro (And.intro (And.intro @f_stringT_27 @f_stringT_37) (And.intro @f_stringT_38 (And.intro @f_stringT_52 @f_stringT_56))) (And.intro (And.intro @f_stringT_61 @f_stringT_63) (And.intro @f_stringT_66 (And.intro @f_stringT_80 @f_stringT_83))))) (And.intro (And.intro (And.intro (And.intro @f_stringT_88 @f_stringT_127) (And.intro @f_stringT_182 (And.intro @f_stringT_192 @f_stringT_227))) (And.intro (And.intro @f_stringT_233 @f_stringT_256) (And.intro @f_structT_30 (And.intro @f_structT_40 @f_structT_47)))) (And.intro (And.intro (And.intro @f_structT_75 @f_structT_93) (And.intro @f_structT_147 (And.intro @f_structT_181 @f_structT_184))) (And.intro (And.intro @f_tsT_3_5 @f_tsT_3_227) (And.intro @f_tsT_5_3 (And.intro @f_tsT_37_9 @f_tsT_227_3))))))) (And.intro (And.intro (And.intro (And.intro (And.intro (And.intro @f_tsT_233_256 @f_tsT_256_233) (And.intro @f_tyL_3 (And.intro @f_tyL_4 @f_tyL_5))) (And.intro (And.intro @f_tyL_9 @f_tyL_22) (And.intro @f_tyL_23 (And.intro @f_tyL_25 @f_tyL_27)))) (And.intro (And.intro (And.intro @f_tyL_30 @f_tyL_37) (And.intro @f_tyL_38 (And.intro @f_tyL_40 @f_tyL_47))) (And.intro (And.intro @f_tyL_52 @f_tyL_56) (And.intro @f_tyL_75 (And.intro @f_tyL_80 @f_tyL_82))))) (And.intro (And.intro (And.intro (And.intro @f_tyL_85 @f_tyL_93) (And.intro @f_tyL_135 (And.intro @f_tyL_143 @f_tyL_147))) (And.intro (And.intro @f_tyL_181 @f_tyL_206) (And.intro @f_tyL_233 (And.intro @f_undS_3 @f_undS_4)))) (And.intro (And.intro (And.intro @f_undS_5 @f_undS_9) (And.intro @f_undS_22 (And.intro @f_undS_23 @f_undS_25))) (And.intro (And.intro @f_undS_27 @f_undS_30) (And.intro @f_undS_32 (And.intro @f_undS_37 @f_undS_38)))))) (And.intro (And.intro (And.intro (And.intro (And.intro @f_undS_40 @f_undS_47) (And.intro @f_undS_52 (And.intro @f_undS_56 @f_undS_61))) (And.intro (And.intro @f_undS_63 @f_undS_66) (And.intro @f_undS_75 (And.intro @f_undS_80 @f_undS_82)))) (And.intro (And.intro (And.intro @f_undS_83 @f_undS_85) (And.intro @f_undS_88 (And.intro @f_undS_93 @f_und_120))) (And.intro (And.intro @f_undS_120 @f_und_127) (And.intro @f_undS_127 (And.intro @f_undS_128 @f_undS_135))))) (And.intro (And.intro (And.intro (And.intro @f_undS_143 @f_undS_147) (And.intro @f_undS_152 (And.intro @f_und_168 @f_undS_168))) (And.intro (And.intro @f_undS_189 @f_undS_192) (And.intro @f_undS_197 (And.intro @f_undS_206 @f_undS_210)))) (And.intro (And.intro (And.intro @f_und_224 @f_undS_224) (And.intro @f_undS_227 (And.intro @f_undS_232 @f_und_233))) (And.intro (And.intro @f_undS_233 @f_undS_250) (And.intro @f_undS_256 (And.intro @f_tk1 @f_tk2)))))))))
theorem call2 {H : Handler} {σ : St} {e : Nat} {args : List AV} : opCall cf H σ e 2 args = callP cf.P σ e (H 2) [] (viewAll σ args) := call_pure Try.func2 (by kernel_rfl) (by kernel_rfl) rfl
theorem call3 {H : Handler} {σ : St} {e : Nat} {args : List AV} : opCall cf H σ e 3 args = callP cf.P σ e (H 3) [25] (viewAll σ args) := call_pure Try.func3 (by kernel_rfl) (by kernel_rfl) rfl
theorem call4 {H : Handler} {σ : St} {e : Nat} {args : List AV} : opCall cf H σ e 4 args = callP cf.P σ e (H 4) [37, 37] (viewAll σ args) := call_pure Try.func4 (by kernel_rfl) (by kernel_rfl) rfl
theorem call5 {H : Handler} {σ : St} {e : Nat} {args : List AV} : opCall cf H σ e 5 args = callP cf.P σ e (H 5) [52] (viewAll σ args) := call_pure Try.func5 (by kernel_rfl) (by kernel_rfl) rfl
theorem call6 {H : Handler} {σ : St} {e : Nat} {args : List AV} : opCall cf H σ e 6 args = callP cf.P σ e (H 6) [61] (viewAll σ args) := call_pure Try.func6 (by kernel_rfl) (by kernel_rfl) rfl
theorem call7 {H : Handler} {σ : St} {e : Nat} {args : List AV} : opCall cf H σ e 7 args = callP cf.P σ e (H 7) [37, 37] (viewAll σ args) := call_pure Try.func7 (by kernel_rfl) (by kernel_rfl) rfl
theorem call8 {H : Handler} {σ : St} {e : Nat} {args : List AV} : opCall cf H σ e 8 args = callP cf.P σ e (H 8) [82, 83, 85] (viewAll σ args) := call_pure Try.func8 (by kernel_rfl) (by kernel_rfl) rfl
theorem call9 {H : Handler} {σ : St} {e : Nat} {args : List AV} : opCall cf H σ e 9 args = callP cf.P σ e (H 9) [61, 3] (viewAll σ args) := call_pure Try.func9 (by kernel_rfl) (by kernel_rfl) rfl
theorem call10 {H : Handler} {σ : St} {e : Nat} {args : List AV} : opCall cf H σ e 10 args = callP cf.P σ e (H 10) [37, 37] (viewAll σ args) := call_pure Try.func10 (by kernel_rfl) (by kernel_rfl) rfl
theorem call11 {H : Handler} {σ : St} {e : Nat} {args : List AV} : opCall cf H σ e 11 args = callP cf.P σ e (H 11) [61, 82, 3] (viewAll σ args) := call_pure Try.func11 (by kernel_rfl) (by kernel_rfl) rfl
theorem call12 {H : Handler} {σ : St} {e : Nat} {args : List AV} : opCall cf H σ e 12 args = callP cf.P σ e (H 12) [82, 82] (viewAll σ args) := call_pure Try.func12 (by kernel_rfl) (by kernel_rfl) rfl
theorem call13 {H : Handler} {σ : St} {e : Nat} {args : List AV} : opCall cf H σ e 13 args = callP cf.P σ e (H 13) [25, 3] (viewAll σ args) := call_pure Try.func13 (by kernel_rfl) (by kernel_rfl) rfl
theorem call14 {H : Handler} {σ : St} {e : Nat} {args : List AV} : opCall cf H σ e 14 args = callP cf.P σ e (H 14) [30] (viewAll σ args) := call_pure Try.func14 (by kernel_rfl) (by kernel_rfl) rfl
theorem call15 {H : Handler} {σ : St} {e : Nat} {args : List AV} : opCall cf H σ e 15 args = callP cf.P σ e (H 15) [25] (viewAll σ args) := call_pure Try.func15 (by kernel_rfl) (by kernel_rfl) rfl
theorem call16 {H : Handler} {σ : St} {e : Nat} {args : List AV} : opCall cf H σ e 16 args = callP cf.P σ e (H 16) [30] (viewAll σ args) := call_pure Try.func16 (by kernel_rfl) (by kernel_rfl) rfl
theorem call17 {H : Handler} {σ : St} {e : Nat} {args : List AV} : opCall cf H σ e 17 args = callP cf.P σ e (H 17) [27, 27] (viewAll σ args) := call_pure Try.func17 (by kernel_rfl) (by kernel_rfl) rfl
theorem call18 {H : Handler} {σ : St} {e : Nat} {args : List AV} : opCall cf H σ e 18 args = callP cf.P σ e (H 18) [30, 30] (viewAll σ args) := call_pure Try.func18 (by kernel_rfl) (by kernel_rfl) rfl
theorem call19 {H : Handler} {σ : St} {e : Nat} {args : List AV} : opCall cf H σ e 19 args = callM cf.P σ e false [0] (H 19) [30, 3] args (withBoxes σ.objs (movedRefs [0] 0 args)) := call_moved Try.func19 (by kernel_rfl) (by kernel_rfl) rfl rfl
theorem call20 {H : Handler} {σ : St} {e : Nat} {args : List AV} : opCall cf H σ e 20 args = callM cf.P σ e false [0] (H 20) [27, 3] args (withBoxes σ.objs (movedRefs [0] 0 args)) := call_moved Try.func20 (by kernel_rfl) (by kernel_rfl) rfl rfl
theorem call21 {H : Handler} {σ : St} {e : Nat} {args : List AV} : opCall cf H σ e 21 args = callP cf.P σ e (H 21) [27, 3] (viewAll σ args) := call_pure Try.func21 (by kernel_rfl) (by kernel_rfl) rfl
theorem call22 {H : Handler} {σ : St} {e : Nat} {args : List AV} : opCall cf H σ e 22 args = callP cf.P σ e (H 22) [37] (viewAll σ args) := call_pure Try.func22 (by kernel_rfl) (by kernel_rfl) rfl
theorem call23 {H : Handler} {σ : St} {e : Nat} {args : List AV} : opCall cf H σ e 23 args = callP cf.P σ e (H 23) [40, 3] (viewAll σ args) := call_pure Try.func23 (by kernel_rfl) (by kernel_rfl) rfl
theorem call24 {H : Handler} {σ : St} {e : Nat} {args : List AV} : opCall cf H σ e 24 args = callP cf.P σ e (H 24) [40, 3] (viewAll σ args) := call_pure Try.func24 (by kernel_rfl) (by kernel_rfl) rfl
theorem call25 {H : Handler} {σ : St} {e : Nat} {args : List AV} : opCall cf H σ e 25 args = callP cf.P σ e (H 25) [27, 27] (viewAll σ args) := call_pure Try.func25 (by kernel_rfl) (by kernel_rfl) rfl
theorem call26 {H : Handler} {σ : St} {e : Nat} {args : List AV} : opCall cf H σ e 26 args = callP cf.P σ e (H 26) [40] (viewAll σ args) := call_pure Try.func26 (by kernel_rfl) (by kernel_rfl) rfl
theorem call27 {H : Handler} {σ : St} {e : Nat} {args : List AV} : opCall cf H σ e 27 args = callP cf.P σ e (H 27) [40, 3] (viewAll σ args) := call_pure Try.func27 (by kernel_rfl) (by kernel_rfl) rfl
theorem call28 {H : Handler} {σ : St} {e : Nat} {args : List AV} : opCall cf H σ e 28 args = callP cf.P σ e (H 28) [40, 3] (viewAll σ args) := call_pure Try.func28 (by kernel_rfl) (by kernel_rfl) rfl
theorem call29 {H : Handler} {σ : St} {e : Nat} {args : List AV} : opCall cf H σ e 29 args = callP cf.P σ e (H 29) [40, 3] (viewAll σ args) := call_pure Try.func29 (by kernel_rfl) (by kernel_rfl) rfl
theorem call30 {H : Handler} {σ : St} {e : Nat} {args : List AV} : opCall cf H σ e 30 args = callP cf.P σ e (H 30) [27, 3] (viewAll σ args) := call_pure Try.func30 (by kernel_rfl) (by kernel_rfl) rfl
theorem call31 {H : Handler} {σ : St} {e : Nat} {args : List AV} : opCall cf H σ e 31 args = callP cf.P σ e (H 31) [52, 3] (viewAll σ args) := call_pure Try.func31 (by kernel_rfl) (by kernel_rfl) rfl
theorem call32 {H : Handler} {σ : St} {e : Nat} {args : List AV} : opCall cf H σ e 32 args = callP cf.P σ e (H 32) [56] (viewAll σ args) := call_pure Try.func32 (by kernel_rfl) (by kernel_rfl) rfl
theorem call33 {H : Handler} {σ : St} {e : Nat} {args : List AV} : opCall cf H σ e 33 args = callP cf.P σ e (H 33) [52] (viewAll σ args) := call_pure Try.func33 (by kernel_rfl) (by kernel_rfl) rfl
theorem call34 {H : Handler} {σ : St} {e : Nat} {args : List AV} : opCall cf H σ e 34 args = callP cf.P σ e (H 34) [56] (viewAll σ args) := call_pure Try.func34 (by kernel_rfl) (by kernel_rfl) rfl
theorem call35 {H : Handler} {σ : St} {e : Nat} {args : List AV} : opCall cf H σ e 35 args = callP cf.P σ e (H 35) [56, 56] (viewAll σ args) := call_pure Try.func35 (by kernel_rfl) (by kernel_rfl) rfl
theorem call36 {H : Handler} {σ : St} {e : Nat} {args : List AV} : opCall cf H σ e 36 args = callM cf.P σ e false [0] (H 36) [56, 3] args (withBoxes σ.objs (movedRefs [0] 0 args)) := call_moved Try.func36 (by kernel_rfl) (by kernel_rfl) rfl rfl
theorem call37 {H : Handler} {σ : St} {e : Nat} {args : List AV} : opCall cf H σ e 37 args = callP cf.P σ e (H 37) [30, 3] (viewAll σ args) := call_pure Try.func37 (by kernel_rfl) (by kernel_rfl) rfl
theorem call38 {H : Handler} {σ : St} {e : Nat} {args : List AV} : opCall cf H σ e 38 args = callP cf.P σ e (H 38) [61, 3] (viewAll σ args) := call_pure Try.func38 (by kernel_rfl) (by kernel_rfl) rfl
theorem call39 {H : Handler} {σ : St} {e : Nat} {args : List AV} : opCall cf H σ e 39 args = callP cf.P σ e (H 39) [66] (viewAll σ args) := call_pure Try.func39 (by kernel_rfl) (by kernel_rfl) rfl
theorem call40 {H : Handler} {σ : St} {e : Nat} {args : List AV} : opCall cf H σ e 40 args = callP cf.P σ e (H 40) [61] (viewAll σ args) := call_pure Try.func40 (by kernel_rfl) (by kernel_rfl) rfl
theorem call41 {H : Handler} {σ : St} {e : Nat} {args : List AV} : opCall cf H σ e 41 args = callP cf.P σ e (H 41) [66] (viewAll σ args) := call_pure Try.func41 (by kernel_rfl) (by kernel_rfl) rfl
theorem call42 {H : Handler} {σ : St} {e : Nat} {args : List AV} : opCall cf H σ e 42 args = callP cf.P σ e (H 42) [63, 63] (viewAll σ args) := call_pure Try.func42 (by kernel_rfl) (by kernel_rfl) rfl
theorem call43 {H : Handler} {σ : St} {e : Nat} {args : List AV} : opCall cf H σ e 43 args = callP cf.P σ e (H 43) [66, 66] (viewAll σ args) := call_pure Try.func43 (by kernel_rfl) (by kernel_rfl) rfl
theorem call44 {H : Handler} {σ : St} {e : Nat} {args : List AV} : opCall cf H σ e 44 args = callM cf.P σ e false [0] (H 44) [66, 3] args (withBoxes σ.objs (movedRefs [0] 0 args)) := call_moved Try.func44 (by kernel_rfl) (by kernel_rfl) rfl rfl
theorem call45 {H : Handler} {σ : St} {e : Nat} {args : List AV} : opCall cf H σ e 45 args = callM cf.P σ e false [0] (H 45) [63, 3] args (withBoxes σ.objs (movedRefs [0] 0 args)) := call_moved Try.func45 (by kernel_rfl) (by kernel_rfl) rfl rfl
theorem call46 {H : Handler} {σ : St} {e : Nat} {args : List AV} : opCall cf H σ e 46 args = callP cf.P σ e (H 46) [63, 3] (viewAll σ args) := call_pure Try.func46 (by kernel_rfl) (by kernel_rfl) rfl
theorem call47 {H : Handler} {σ : St} {e : Nat} {args : List AV} : opCall cf H σ e 47 args = callP cf.P σ e (H 47) [37] (viewAll σ args) := call_pure Try.func47 (by kernel_rfl) (by kernel_rfl) rfl
theorem call48 {H : Handler} {σ : St} {e : Nat} {args : List AV} : opCall cf H σ e 48 args = callP cf.P σ e (H 48) [37, 3, 3] (viewAll σ args) := call_pure Try.func48 (by kernel_rfl) (by kernel_rfl) rfl
theorem call49 {H : Handler} {σ : St} {e : Nat} {args : List AV} : opCall cf H σ e 49 args = callP cf.P σ e (H 49) [56, 27] (viewAll σ args) := call_pure Try.func49 (by kernel_rfl) (by kernel_rfl) rfl
theorem call50 {H : Handler} {σ : St} {e : Nat} {args : List AV} : opCall cf H σ e 50 args = callP cf.P σ e (H 50) [56, 27] (viewAll σ args) := call_pure Try.func50 (by kernel_rfl) (by kernel_rfl) rfl
theorem call51 {H : Handler} {σ : St} {e : Nat} {args : List AV} : opCall cf H σ e 51 args = callP cf.P σ e (H 51) [30, 30] (viewAll σ args) := call_pure Try.func51 (by kernel_rfl) (by kernel_rfl) rfl
theorem call52 {H : Handler} {σ : St} {e : Nat} {args : List AV} : opCall cf H σ e 52 args = callP cf.P σ e (H 52) [30, 27] (viewAll σ args) := call_pure Try.func52 (by kernel_rfl) (by kernel_rfl) rfl
theorem call53 {H : Handler} {σ : St} {e : Nat} {args : List AV} : opCall cf H σ e 53 args = callP cf.P σ e (H 53) [82, 3] (viewAll σ args) := call_pure Try.func53 (by kernel_rfl) (by kernel_rfl) rfl
theorem call54 {H : Handler} {σ : St} {e : Nat} {args : List AV} : opCall cf H σ e 54 args = callP cf.P σ e (H 54) [83, 3] (viewAll σ args) := call_pure Try.func54 (by kernel_rfl) (by kernel_rfl) rfl
theorem call55 {H : Handler} {σ : St} {e : Nat} {args : List AV} : opCall cf H σ e 55 args = callP cf.P σ e (H 55) [40, 88, 93] (viewAll σ args) := call_pure Try.func55 (by kernel_rfl) (by kernel_rfl) rfl
theorem call56 {H : Handler} {σ : St} {e : Nat} {args : List AV} : opCall cf H σ e 56 args = callP cf.P σ e (H 56) [82] (viewAll σ args) := call_pure Try.func56 (by kernel_rfl) (by kernel_rfl) rfl
theorem call57 {H : Handler} {σ : St} {e : Nat} {args : List AV} : opCall cf H σ e 57 args = callP cf.P σ e (H 57) [83] (viewAll σ args) := call_pure Try.func57 (by kernel_rfl) (by kernel_rfl) rfl
theorem call58 {H : Handler} {σ : St} {e : Nat} {args : List AV} : opCall cf H σ e 58 args = callP cf.P σ e (H 58) [85] (viewAll σ args) := call_pure Try.func58 (by kernel_rfl) (by kernel_rfl) rfl
theorem call59 {H : Handler} {σ : St} {e : Nat} {args : List AV} : opCall cf H σ e 59 args = callP cf.P σ e (H 59) [40, 88, 93] (viewAll σ args) := call_pure Try.func59 (by kernel_rfl) (by kernel_rfl) rfl
theorem call60 {H : Handler} {σ : St} {e : Nat} {args : List AV} : opCall cf H σ e 60 args = callP cf.P σ e (H 60) [88, 88] (viewAll σ args) := call_pure Try.func60 (by kernel_rfl) (by kernel_rfl) rfl
theorem call61 {H : Handler} {σ : St} {e : Nat} {args : List AV} : opCall cf H σ e 61 args = callP cf.P σ e (H 61) [40, 40] (viewAll σ args) := call_pure Try.func61 (by kernel_rfl) (by kernel_rfl) rfl
theorem call62 {H : Handler} {σ : St} {e : Nat} {args : List AV} : opCall cf H σ e 62 args = callM cf.P σ e false [0] (H 62) [40, 3] args (withBoxes σ.objs (movedRefs [0] 0 args)) := call_moved Try.func62 (by kernel_rfl) (by kernel_rfl) rfl rfl
theorem call63 {H : Handler} {σ : St} {e : Nat} {args : List AV} : opCall cf H σ e 63 args = callM cf.P σ e false [0] (H 63) [88, 3] args (withBoxes σ.objs (movedRefs [0] 0 args)) := call_moved Try.func63 (by kernel_rfl) (by kernel_rfl) rfl rfl
theorem call64 {H : Handler} {σ : St} {e : Nat} {args : List AV} : opCall cf H σ e 64 args = callP cf.P σ e (H 64) [88, 3] (viewAll σ args) := call_pure Try.func64 (by kernel_rfl) (by kernel_rfl) rfl
theorem call65 {H : Handler} {σ : St} {e : Nat} {args : List AV} : opCall cf H σ e 65 args = callP cf.P σ e (H 65) [66, 3] (viewAll σ args) := call_pure Try.func65 (by kernel_rfl) (by kernel_rfl) rfl
theorem call66 {H : Handler} {σ : St} {e : Nat} {args : List AV} : opCall cf H σ e 66 args = callP cf.P σ e (H 66) [66, 3] (viewAll σ args) := call_pure Try.func66 (by kernel_rfl) (by kernel_rfl) rfl
theorem call67 {H : Handler} {σ : St} {e : Nat} {args : List AV} : opCall cf H σ e 67 args = callP cf.P σ e (H 67) [40, 3] (viewAll σ args) := call_pure Try.func67 (by kernel_rfl) (by kernel_rfl) rfl
theorem call68 {H : Handler} {σ : St} {e : Nat} {args : List AV} : opCall cf H σ e 68 args = callP cf.P σ e (H 68) [37] (viewAll σ args) := call_pure Try.func68 (by kernel_rfl) (by kernel_rfl) rfl
theorem call69 {H : Handler} {σ : St} {e : Nat} {args : List AV} : opCall cf H σ e 69 args = callP cf.P σ e (H 69) [37, 3, 40] (viewAll σ args) := call_pure Try.func69 (by kernel_rfl) (by kernel_rfl) rfl
theorem call70 {H : Handler} {σ : St} {e : Nat} {args : List AV} : opCall cf H σ e 70 args = callP cf.P σ e (H 70) [40, 88, 3, 3] (viewAll σ args) := call_pure Try.func70 (by kernel_rfl) (by kernel_rfl) rfl
theorem call71 {H : Handler} {σ : St} {e : Nat} {args : List AV} : opCall cf H σ e 71 args = callP cf.P σ e (H 71) [40, 88, 3, 3] (viewAll σ args) := call_pure Try.func71 (by kernel_rfl) (by kernel_rfl) rfl
theorem call72 {H : Handler} {σ : St} {e : Nat} {args : List AV} : opCall cf H σ e 72 args = callP cf.P σ e (H 72) [40, 88, 3, 3] (viewAll σ args) := call_pure Try.func72 (by kernel_rfl) (by kernel_rfl) rfl
theorem call73 {H : Handler} {σ : St} {e : Nat} {args : List AV} : opCall cf H σ e 73 args = callP cf.P σ e (H 73) [66, 40, 3] (viewAll σ args) := call_pure Try.func73 (by kernel_rfl) (by kernel_rfl) rfl
theorem call74 {H : Handler} {σ : St} {e : Nat} {args : List AV} : opCall cf H σ e 74 args = callP cf.P σ e (H 74) [66, 40, 3] (viewAll σ args) := call_pure Try.func74 (by kernel_rfl) (by kernel_rfl) rfl
theorem call75 {H : Handler} {σ : St} {e : Nat} {args : List AV} : opCall cf H σ e 75 args = callP cf.P σ e (H 75) [40, 40] (viewAll σ args) := call_pure Try.func75 (by kernel_rfl) (by kernel_rfl) rfl
theorem call76 {H : Handler} {σ : St} {e : Nat} {args : List AV} : opCall cf H σ e 76 args = callP cf.P σ e (H 76) [40, 40] (viewAll σ args) := call_pure Try.func76 (by kernel_rfl) (by kernel_rfl) rfl
theorem call77 {H : Handler} {σ : St} {e : Nat} {args : List AV} : opCall cf H σ e 77 args = callP cf.P σ e (H 77) [22, 3] (viewAll σ args) := call_pure Try.func77 (by kernel_rfl) (by kernel_rfl) rfl
theorem call78 {H : Handler} {σ : St} {e : Nat} {args : List AV} : opCall cf H σ e 78 args = callP cf.P σ e (H 78) [23, 3] (viewAll σ args) := call_pure Try.func78 (by kernel_rfl) (by kernel_rfl) rfl
theorem call79 {H : Handler} {σ : St} {e : Nat} {args : List AV} : opCall cf H σ e 79 args = callP cf.P σ e (H 79) [30] (viewAll σ args) := call_pure Try.func79 (by kernel_rfl) (by kernel_rfl) rfl
theorem call80 {H : Handler} {σ : St} {e : Nat} {args : List AV} : opCall cf H σ e 80 args = callP cf.P σ e (H 80) [30] (viewAll σ args) := call_pure Try.func80 (by kernel_rfl) (by kernel_rfl) rfl
theorem call81 {H : Handler} {σ : St} {e : Nat} {args : List AV} : opCall cf H σ e 81 args = callP cf.P σ e (H 81) [22] (viewAll σ args) := call_pure Try.func81 (by kernel_rfl) (by kernel_rfl) rfl
theorem call82 {H : Handler} {σ : St} {e : Nat} {args : List AV} : opCall cf H σ e 82 args = callP cf.P σ e (H 82) [23] (viewAll σ args) := call_pure Try.func82 (by kernel_rfl) (by kernel_rfl) rfl
theorem call83 {H : Handler} {σ : St} {e : Nat} {args : List AV} : opCall cf H σ e 83 args = callP cf.P σ e (H 83) [30] (viewAll σ args) := call_pure Try.func83 (by kernel_rfl) (by kernel_rfl) rfl
theorem call84 {H : Handler} {σ : St} {e : Nat} {args : List AV} : opCall cf H σ e 84 args = callP cf.P σ e (H 84) [30] (viewAll σ args) := call_pure Try.func84 (by kernel_rfl) (by kernel_rfl) rfl
theorem call85 {H : Handler} {σ : St} {e : Nat} {args : List AV} : opCall cf H σ e 85 args = callP cf.P σ e (H 85) [22, 22] (viewAll σ args) := call_pure Try.func85 (by kernel_rfl) (by kernel_rfl) rfl
theorem call86 {H : Handler} {σ : St} {e : Nat} {args : List AV} : opCall cf H σ e 86 args = callP cf.P σ e (H 86) [23, 23] (viewAll σ args) := call_pure Try.func86 (by kernel_rfl) (by kernel_rfl) rfl
theorem call87 {H : Handler} {σ : St} {e : Nat} {args : List AV} : opCall cf H σ e 87 args = callM cf.P σ e false [0] (H 87) [22, 3] args (withBoxes σ.objs (movedRefs [0] 0 args)) := call_moved Try.func87 (by kernel_rfl) (by kernel_rfl) rfl rfl
theorem call88 {H : Handler} {σ : St} {e : Nat} {args : List AV} : opCall cf H σ e 88 args = callM cf.P σ e false [0] (H 88) [23, 3] args (withBoxes σ.objs (movedRefs [0] 0 args)) := call_moved Try.func88 (by kernel_rfl) (by kernel_rfl) rfl rfl
theorem call89 {H : Handler} {σ : St} {e : Nat} {args : List AV} : opCall cf H σ e 89 args = callP cf.P σ e (H 89) [37] (viewAll σ args) := call_pure Try.func89 (by kernel_rfl) (by kernel_rfl) rfl
theorem call90 {H : Handler} {σ : St} {e : Nat} {args : List AV} : opCall cf H σ e 90 args = callM cf.P σ e true [0] (H 90) [120, 3] args (withBoxes σ.objs (movedRefs [0] 0 args)) := call_moved Try.func90 (by kernel_rfl) (by kernel_rfl) rfl rfl
theorem call91 {H : Handler} {σ : St} {e : Nat} {args : List AV} : opCall cf H σ e 91 args = callM cf.P σ e true [0] (H 91) [120, 3] args (withBoxes σ.objs (movedRefs [0] 0 args)) := call_moved Try.func91 (by kernel_rfl) (by kernel_rfl) rfl rfl
theorem call92 {H : Handler} {σ : St} {e : Nat} {args : List AV} : opCall cf H σ e 92 args = callM cf.P σ e true [0] (H 92) [120, 3] args (withBoxes σ.objs (movedRefs [0] 0 args)) := call_moved Try.func92 (by kernel_rfl) (by kernel_rfl) rfl rfl
theorem call93 {H : Handler} {σ : St} {e : Nat} {args : List AV} : opCall cf H σ e 93 args = callP cf.P σ e (H 93) [40, 3] (viewAll σ args) := call_pure Try.func93 (by kernel_rfl) (by kernel_rfl) rfl
theorem call94 {H : Handler} {σ : St} {e : Nat} {args : List AV} : opCall cf H σ e 94 args = callM cf.P σ e false [1] (H 94) [168, 27, 3] args (withBoxes σ.objs (movedRefs [1] 0 args)) := call_moved Try.func94 (by kernel_rfl) (by kernel_rfl) rfl rfl
theorem call95 {H : Handler} {σ : St} {e : Nat} {args : List AV} : opCall cf H σ e 95 args = callP cf.P σ e (H 95) [40, 3] (viewAll σ args) := call_pure Try.func95 (by kernel_rfl) (by kernel_rfl) rfl
theorem call96 {H : Handler} {σ : St} {e : Nat} {args : List AV} : opCall cf H σ e 96 args = callP cf.P σ e (H 96) [40, 3] (viewAll σ args) := call_pure Try.func96 (by kernel_rfl) (by kernel_rfl) rfl
theorem call97 {H : Handler} {σ : St} {e : Nat} {args : List AV} : opCall cf H σ e 97 args = callP cf.P σ e (H 97) [3, 3, 3] (viewAll σ args) := call_pure Try.func97 (by kernel_rfl) (by kernel_rfl) rfl
theorem call98 {H : Handler} {σ : St} {e : Nat} {args : List AV} : opCall cf H σ e 98 args = callP cf.P σ e (H 98) [168, 3] (viewAll σ args) := call_pure Try.func98 (by kernel_rfl) (by kernel_rfl) rfl
theorem call99 {H : Handler} {σ : St} {e : Nat} {args : List AV} : opCall cf H σ e 99 args = callP cf.P σ e (H 99) [168] (viewAll σ args) := call_pure Try.func99 (by kernel_rfl) (by kernel_rfl) rfl
theorem call100 {H : Handler} {σ : St} {e : Nat} {args : List AV} : opCall cf H σ e 100 args = callP cf.P σ e (H 100) [168, 3] (viewAll σ args) := call_pure Try.func100 (by kernel_rfl) (by kernel_rfl) rfl
theorem call101 {H : Handler} {σ : St} {e : Nat} {args : List AV} : opCall cf H σ e 101 args = callP cf.P σ e (H 101) [168, 3] (viewAll σ args) := call_pure Try.func101 (by kernel_rfl) (by kernel_rfl) rfl
theorem call102 {H : Handler} {σ : St} {e : Nat} {args : List AV} : opCall cf H σ e 102 args = callP cf.P σ e (H 102) [168, 3] (viewAll σ args) := call_pure Try.func102 (by kernel_rfl) (by kernel_rfl) rfl
theorem call103 {H : Handler} {σ : St} {e : Nat} {args : List AV} : opCall cf H σ e 103 args = callP cf.P σ e (H 103) [47] (viewAll σ args) := call_pure Try.func103 (by kernel_rfl) (by kernel_rfl) rfl
theorem call104 {H : Handler} {σ : St} {e : Nat} {args : List AV} : opCall cf H σ e 104 args = callP cf.P σ e (H 104) [135, 3] (viewAll σ args) := call_pure Try.func104 (by kernel_rfl) (by kernel_rfl) rfl
theorem call105 {H : Handler} {σ : St} {e : Nat} {args : List AV} : opCall cf H σ e 105 args = callP cf.P σ e (H 105) [56] (viewAll σ args) := call_pure Try.func105 (by kernel_rfl) (by kernel_rfl) rfl
theorem call106 {H : Handler} {σ : St} {e : Nat} {args : List AV} : opCall cf H σ e 106 args = callP cf.P σ e (H 106) [56] (viewAll σ args) := call_pure Try.func106 (by kernel_rfl) (by kernel_rfl) rfl
theorem call107 {H : Handler} {σ : St} {e : Nat} {args : List AV} : opCall cf H σ e 107 args = callP cf.P σ e (H 107) [135] (viewAll σ args) := call_pure Try.func107 (by kernel_rfl) (by kernel_rfl) rfl
theorem call108 {H : Handler} {σ : St} {e : Nat} {args : List AV} : opCall cf H σ e 108 args = callP cf.P σ e (H 108) [56] (viewAll σ args) := call_pure Try.func108 (by kernel_rfl) (by kernel_rfl) rfl
theorem call109 {H : Handler} {σ : St} {e : Nat} {args : List AV} : opCall cf H σ e 109 args = callP cf.P σ e (H 109) [56, 3] (viewAll σ args) := call_pure Try.func109 (by kernel_rfl) (by kernel_rfl) rfl
theorem call110 {H : Handler} {σ : St} {e : Nat} {args : List AV} : opCall cf H σ e 110 args = callP cf.P σ e (H 110) [56] (viewAll σ args) := call_pure Try.func110 (by kernel_rfl) (by kernel_rfl) rfl
theorem call111 {H : Handler} {σ : St} {e : Nat} {args : List AV} : opCall cf H σ e 111 args = callP cf.P σ e (H 111) [75, 75] (viewAll σ args) := call_pure Try.func111 (by kernel_rfl) (by kernel_rfl) rfl
theorem call112 {H : Handler} {σ : St} {e : Nat} {args : List AV} : opCall cf H σ e 112 args = callP cf.P σ e (H 112) [22, 3] (viewAll σ args) := call_pure Try.func112 (by kernel_rfl) (by kernel_rfl) rfl
theorem call113 {H : Handler} {σ : St} {e : Nat} {args : List AV} : opCall cf H σ e 113 args = callP cf.P σ e (H 113) [23, 3] (viewAll σ args) := call_pure Try.func113 (by kernel_rfl) (by kernel_rfl) rfl
theorem call114 {H : Handler} {σ : St} {e : Nat} {args : List AV} : opCall cf H σ e 114 args = callP cf.P σ e (H 114) [143, 3] (viewAll σ args) := call_pure Try.func114 (by kernel_rfl) (by kernel_rfl) rfl
theorem call115 {H : Handler} {σ : St} {e : Nat} {args : List AV} : opCall cf H σ e 115 args = callP cf.P σ e (H 115) [66] (viewAll σ args) := call_pure Try.func115 (by kernel_rfl) (by kernel_rfl) rfl
theorem call116 {H : Handler} {σ : St} {e : Nat} {args : List AV} : opCall cf H σ e 116 args = callP cf.P σ e (H 116) [66] (viewAll σ args) := call_pure Try.func116 (by kernel_rfl) (by kernel_rfl) rfl
theorem call117 {H : Handler} {σ : St} {e : Nat} {args : List AV} : opCall cf H σ e 117 args = callP cf.P σ e (H 117) [143] (viewAll σ args) := call_pure Try.func117 (by kernel_rfl) (by kernel_rfl) rfl
theorem call118 {H : Handler} {σ : St} {e : Nat} {args : List AV} : opCall cf H σ e 118 args = callP cf.P σ e (H 118) [66] (viewAll σ args) := call_pure Try.func118 (by kernel_rfl) (by kernel_rfl) rfl
theorem call119 {H : Handler} {σ : St} {e : Nat} {args : List AV} : opCall cf H σ e 119 args = callP cf.P σ e (H 119) [66] (viewAll σ args) := call_pure Try.func119 (by kernel_rfl) (by kernel_rfl) rfl
theorem call120 {H : Handler} {σ : St} {e : Nat} {args : List AV} : opCall cf H σ e 120 args = callP cf.P σ e (H 120) [66] (viewAll σ args) := call_pure Try.func120 (by kernel_rfl) (by kernel_rfl) rfl
theorem call121 {H : Handler} {σ : St} {e : Nat} {args : List AV} : opCall cf H σ e 121 args = callP cf.P σ e (H 121) [147, 147] (viewAll σ args) := call_pure Try.func121 (by kernel_rfl) (by kernel_rfl) rfl
theorem call122 {H : Handler} {σ : St} {e : Nat} {args : List AV} : opCall cf H σ e 122 args = callP cf.P σ e (H 122) [3] (viewAll σ args) := call_pure Try.func122 (by kernel_rfl) (by kernel_rfl) rfl
theorem call123 {H : Handler} {σ : St} {e : Nat} {args : List AV} : opCall cf H σ e 123 args = callM cf.P σ e true [0] (H 123) [120] args (withBoxes σ.objs (movedRefs [0] 0 args)) := call_moved Try.func123 (by kernel_rfl) (by kernel_rfl) rfl rfl
theorem call124 {H : Handler} {σ : St} {e : Nat} {args : List AV} : opCall cf H σ e 124 args = callP cf.P σ e (H 124) [27] (viewAll σ args) := call_pure Try.func124 (by kernel_rfl) (by kernel_rfl) rfl
theorem call125 {H : Handler} {σ : St} {e : Nat} {args : List AV} : opCall cf H σ e 125 args = callP cf.P σ e (H 125) [56, 27] (viewAll σ args) := call_pure Try.func125 (by kernel_rfl) (by kernel_rfl) rfl
theorem call126 {H : Handler} {σ : St} {e : Nat} {args : List AV} : opCall cf H σ e 126 args = callP cf.P σ e (H 126) [56, 27] (viewAll σ args) := call_pure Try.func126 (by kernel_rfl) (by kernel_rfl) rfl
theorem call127 {H : Handler} {σ : St} {e : Nat} {args : List AV} : opCall cf H σ e 127 args = callP cf.P σ e (H 127) [22, 22, 32] (viewAll σ args) := call_pure Try.func127 (by kernel_rfl) (by kernel_rfl) rfl
theorem call128 {H : Handler} {σ : St} {e : Nat} {args : List AV} : opCall cf H σ e 128 args = callP cf.P σ e (H 128) [27, 27] (viewAll σ args) := call_pure Try.func128 (by kernel_rfl) (by kernel_rfl) rfl
theorem call129 {H : Handler} {σ : St} {e : Nat} {args : List AV} : opCall cf H σ e 129 args = callP cf.P σ e (H 129) [23, 23] (viewAll σ args) := call_pure Try.func129 (by kernel_rfl) (by kernel_rfl) rfl
theorem call130 {H : Handler} {σ : St} {e : Nat} {args : List AV} : opCall cf H σ e 130 args = callP cf.P σ e (H 130) [80, 3] (viewAll σ args) := call_pure Try.func130 (by kernel_rfl) (by kernel_rfl) rfl
theorem call131 {H : Handler} {σ : St} {e : Nat} {args : List AV} : opCall cf H σ e 131 args = callP cf.P σ e (H 131) [40, 88, 3, 3] (viewAll σ args) := call_pure Try.func131 (by kernel_rfl) (by kernel_rfl) rfl
theorem call132 {H : Handler} {σ : St} {e : Nat} {args : List AV} : opCall cf H σ e 132 args = callP cf.P σ e (H 132) [3] (viewAll σ args) := call_pure Try.func132 (by kernel_rfl) (by kernel_rfl) rfl
theorem call133 {H : Handler} {σ : St} {e : Nat} {args : List AV} : opCall cf H σ e 133 args = callP cf.P σ e (H 133) [88, 93] (viewAll σ args) := call_pure Try.func133 (by kernel_rfl) (by kernel_rfl) rfl
theorem call134 {H : Handler} {σ : St} {e : Nat} {args : List AV} : opCall cf H σ e 134 args = callP cf.P σ e (H 134) [80] (viewAll σ args) := call_pure Try.func134 (by kernel_rfl) (by kernel_rfl) rfl
theorem call135 {H : Handler} {σ : St} {e : Nat} {args : List AV} : opCall cf H σ e 135 args = callP cf.P σ e (H 135) [40, 88, 93] (viewAll σ args) := call_pure Try.func135 (by kernel_rfl) (by kernel_rfl) rfl
theorem call136 {H : Handler} {σ : St} {e : Nat} {args : List AV} : opCall cf H σ e 136 args = callP cf.P σ e (H 136) [88, 93] (viewAll σ args) := call_pure Try.func136 (by kernel_rfl) (by kernel_rfl) rfl
theorem call137 {H : Handler} {σ : St} {e : Nat} {args : List AV} : opCall cf H σ e 137 args = callP cf.P σ e (H 137) [93, 93] (viewAll σ args) := call_pure Try.func137 (by kernel_rfl) (by kernel_rfl) rfl
theorem call138 {H : Handler} {σ : St} {e : Nat} {args : List AV} : opCall cf H σ e 138 args = callP cf.P σ e (H 138) [38, 38] (viewAll σ args) := call_pure Try.func138 (by kernel_rfl) (by kernel_rfl) rfl
theorem call139 {H : Handler} {σ : St} {e : Nat} {args : List AV} : opCall cf H σ e 139 args = callM cf.P σ e false [0] (H 139) [38, 3] args (withBoxes σ.objs (movedRefs [0] 0 args)) := call_moved Try.func139 (by kernel_rfl) (by kernel_rfl) rfl rfl
theorem call140 {H : Handler} {σ : St} {e : Nat} {args : List AV} : opCall cf H σ e 140 args = callP cf.P σ e (H 140) [3, 3, 3] (viewAll σ args) := call_pure Try.func140 (by kernel_rfl) (by kernel_rfl) rfl
theorem call141 {H : Handler} {σ : St} {e : Nat} {args : List AV} : opCall cf H σ e 141 args = callP cf.P σ e (H 141) [66, 3] (viewAll σ args) := call_pure Try.func141 (by kernel_rfl) (by kernel_rfl) rfl
theorem call142 {H : Handler} {σ : St} {e : Nat} {args : List AV} : opCall cf H σ e 142 args = callP cf.P σ e (H 142) [40] (viewAll σ args) := call_pure Try.func142 (by kernel_rfl) (by kernel_rfl) rfl
theorem call143 {H : Handler} {σ : St} {e : Nat} {args : List AV} : opCall cf H σ e 143 args = callM cf.P σ e false [1] (H 143) [66, 168, 3, 3] args (withBoxes σ.objs (movedRefs [1] 0 args)) := call_moved Try.func143 (by kernel_rfl) (by kernel_rfl) rfl rfl
theorem call144 {H : Handler} {σ : St} {e : Nat} {args : List AV} : opCall cf H σ e 144 args = callP cf.P σ e (H 144) [38, 3] (viewAll σ args) := call_pure Try.func144 (by kernel_rfl) (by kernel_rfl) rfl
theorem call145 {H : Handler} {σ : St} {e : Nat} {args : List AV} : opCall cf H σ e 145 args = callM cf.P σ e true [0] (H 145) [120] args (withBoxes σ.objs (movedRefs [0] 0 args)) := call_moved Try.func145 (by kernel_rfl) (by kernel_rfl) rfl rfl
theorem call146 {H : Handler} {σ : St} {e : Nat} {args : List AV} : opCall cf H σ e 146 args = callM cf.P σ e true [0] (H 146) [120, 40, 4] args (withBoxes σ.objs (movedRefs [0] 0 args)) := call_moved Try.func146 (by kernel_rfl) (by kernel_rfl) rfl rfl
theorem call147 {H : Handler} {σ : St} {e : Nat} {args : List AV} : opCall cf H σ e 147 args = callP cf.P σ e (H 147) [40, 88, 3, 3] (viewAll σ args) := call_pure Try.func147 (by kernel_rfl) (by kernel_rfl) rfl
theorem call148 {H : Handler} {σ : St} {e : Nat} {args : List AV} : opCall cf H σ e 148 args = callP cf.P σ e (H 148) [168, 88, 3, 3] (viewAll σ args) := call_pure Try.func148 (by kernel_rfl) (by kernel_rfl) rfl
theorem call149 {H : Handler} {σ : St} {e : Nat} {args : List AV} : opCall cf H σ e 149 args = callP cf.P σ e (H 149) [40, 88, 3, 3] (viewAll σ args) := call_pure Try.func149 (by kernel_rfl) (by kernel_rfl) rfl
theorem call150 {H : Handler} {σ : St} {e : Nat} {args : List AV} : opCall cf H σ e 150 args = callP cf.P σ e (H 150) [168, 88, 3, 3] (viewAll σ args) := call_pure Try.func150 (by kernel_rfl) (by kernel_rfl) rfl
theorem call151 {H : Handler} {σ : St} {e : Nat} {args : List AV} : opCall cf H σ e 151 args = callP cf.P σ e (H 151) [40, 3] (viewAll σ args) := call_pure Try.func151 (by kernel_rfl) (by kernel_rfl) rfl
theorem call152 {H : Handler} {σ : St} {e : Nat} {args : List AV} : opCall cf H σ e 152 args = callP cf.P σ e (H 152) [40, 47] (viewAll σ args) := call_pure Try.func152 (by kernel_rfl) (by kernel_rfl) rfl
theorem call153 {H : Handler} {σ : St} {e : Nat} {args : List AV} : opCall cf H σ e 153 args = callP cf.P σ e (H 153) [56, 27, 3] (viewAll σ args) := call_pure Try.func153 (by kernel_rfl) (by kernel_rfl) rfl
theorem call154 {H : Handler} {σ : St} {e : Nat} {args : List AV} : opCall cf H σ e 154 args = callP cf.P σ e (H 154) [168, 3] (viewAll σ args) := call_pure Try.func154 (by kernel_rfl) (by kernel_rfl) rfl
theorem call155 {H : Handler} {σ : St} {e : Nat} {args : List AV} : opCall cf H σ e 155 args = callP cf.P σ e (H 155) [40] (viewAll σ args) := call_pure Try.func155 (by kernel_rfl) (by kernel_rfl) rfl
theorem call156 {H : Handler} {σ : St} {e : Nat} {args : List AV} : opCall cf H σ e 156 args = callP cf.P σ e (H 156) [40, 40] (viewAll σ args) := call_pure Try.func156 (by kernel_rfl) (by kernel_rfl) rfl
theorem call157 {H : Handler} {σ : St} {e : Nat} {args : List AV} : opCall cf H σ e 157 args = callP cf.P σ e (H 157) [40, 3, 3] (viewAll σ args) := call_pure Try.func157 (by kernel_rfl) (by kernel_rfl) rfl
theorem call158 {H : Handler} {σ : St} {e : Nat} {args : List AV} : opCall cf H σ e 158 args = callP cf.P σ e (H 158) [40, 40] (viewAll σ args) := call_pure Try.func158 (by kernel_rfl) (by kernel_rfl) rfl
theorem call159 {H : Handler} {σ : St} {e : Nat} {args : List AV} : opCall cf H σ e 159 args = callP cf.P σ e (H 159) [27, 3] (viewAll σ args) := call_pure Try.func159 (by kernel_rfl) (by kernel_rfl) rfl
theorem call160 {H : Handler} {σ : St} {e : Nat} {args : List AV} : opCall cf H σ e 160 args = callP cf.P σ e (H 160) [27, 3] (viewAll σ args) := call_pure Try.func160 (by kernel_rfl) (by kernel_rfl) rfl
theorem call161 {H : Handler} {σ : St} {e : Nat} {args : List AV} : opCall cf H σ e 161 args = callP cf.P σ e (H 161) [27] (viewAll σ args) := call_pure Try.func161 (by kernel_rfl) (by kernel_rfl) rfl
theorem call162 {H : Handler} {σ : St} {e : Nat} {args : List AV} : opCall cf H σ e 162 args = callP cf.P σ e (H 162) [22, 152] (viewAll σ args) := call_pure Try.func162 (by kernel_rfl) (by kernel_rfl) rfl
theorem call163 {H : Handler} {σ : St} {e : Nat} {args : List AV} : opCall cf H σ e 163 args = callP cf.P σ e (H 163) [27] (viewAll σ args) := call_pure Try.func163 (by kernel_rfl) (by kernel_rfl) rfl
theorem call164 {H : Handler} {σ : St} {e : Nat} {args : List AV} : opCall cf H σ e 164 args = callP cf.P σ e (H 164) [27, 128] (viewAll σ args) := call_pure Try.func164 (by kernel_rfl) (by kernel_rfl) rfl
theorem call165 {H : Handler} {σ : St} {e : Nat} {args : List AV} : opCall cf H σ e 165 args = callP cf.P σ e (H 165) [3] (viewAll σ args) := call_pure Try.func165 (by kernel_rfl) (by kernel_rfl) rfl
theorem call166 {H : Handler} {σ : St} {e : Nat} {args : List AV} : opCall cf H σ e 166 args = callP cf.P σ e (H 166) [27] (viewAll σ args) := call_pure Try.func166 (by kernel_rfl) (by kernel_rfl) rfl
theorem call167 {H : Handler} {σ : St} {e : Nat} {args : List AV} : opCall cf H σ e 167 args = callP cf.P σ e (H 167) [3] (viewAll σ args) := call_pure Try.func167 (by kernel_rfl) (by kernel_rfl) rfl
theorem call168 {H : Handler} {σ : St} {e : Nat} {args : List AV} : opCall cf H σ e 168 args = callP cf.P σ e (H 168) [40, 3] (viewAll σ args) := call_pure Try.func168 (by kernel_rfl) (by kernel_rfl) rfl
theorem call169 {H : Handler} {σ : St} {e : Nat} {args : List AV} : opCall cf H σ e 169 args = callM cf.P σ e true [0] (H 169) [120, 3] args (withBoxes σ.objs (movedRefs [0] 0 args)) := call_moved Try.func169 (by kernel_rfl) (by kernel_rfl) rfl rfl
theorem call170 {H : Handler} {σ : St} {e : Nat} {args : List AV} : opCall cf H σ e 170 args = callM cf.P σ e true [0] (H 170) [120] args (withBoxes σ.objs (movedRefs [0] 0 args)) := call_moved Try.func170 (by kernel_rfl) (by kernel_rfl) rfl rfl
theorem call171 {H : Handler} {σ : St} {e : Nat} {args : List AV} : opCall cf H σ e 171 args = callP cf.P σ e (H 171) [168, 3, 3] (viewAll σ args) := call_pure Try.func171 (by kernel_rfl) (by kernel_rfl) rfl
theorem call172 {H : Handler} {σ : St} {e : Nat} {args : List AV} : opCall cf H σ e 172 args = callM cf.P σ e true [0] (H 172) [27] args (withBoxes σ.objs (movedRefs [0] 0 args)) := call_moved Try.func172 (by kernel_rfl) (by kernel_rfl) rfl rfl
theorem call173 {H : Handler} {σ : St} {e : Nat} {args : List AV} : opCall cf H σ e 173 args = callP cf.P σ e (H 173) [27, 3] (viewAll σ args) := call_pure Try.func173 (by kernel_rfl) (by kernel_rfl) rfl
theorem call174 {H : Handler} {σ : St} {e : Nat} {args : List AV} : opCall cf H σ e 174 args = callP cf.P σ e (H 174) [38, 3, 189] (viewAll σ args) := call_pure Try.func174 (by kernel_rfl) (by kernel_rfl) rfl
theorem call175 {H : Handler} {σ : St} {e : Nat} {args : List AV} : opCall cf H σ e 175 args = callP cf.P σ e (H 175) [47, 3] (viewAll σ args) := call_pure Try.func175 (by kernel_rfl) (by kernel_rfl) rfl
theorem call176 {H : Handler} {σ : St} {e : Nat} {args : List AV} : opCall cf H σ e 176 args = callP cf.P σ e (H 176) [75, 3] (viewAll σ args) := call_pure Try.func176 (by kernel_rfl) (by kernel_rfl) rfl
theorem call177 {H : Handler} {σ : St} {e : Nat} {args : List AV} : opCall cf H σ e 177 args = callP cf.P σ e (H 177) [56, 23] (viewAll σ args) := call_pure Try.func177 (by kernel_rfl) (by kernel_rfl) rfl
theorem call178 {H : Handler} {σ : St} {e : Nat} {args : List AV} : opCall cf H σ e 178 args = callP cf.P σ e (H 178) [56, 23, 3] (viewAll σ args) := call_pure Try.func178 (by kernel_rfl) (by kernel_rfl) rfl
theorem call179 {H : Handler} {σ : St} {e : Nat} {args : List AV} : opCall cf H σ e 179 args = callP cf.P σ e (H 179) [23] (viewAll σ args) := call_pure Try.func179 (by kernel_rfl) (by kernel_rfl) rfl
theorem call180 {H : Handler} {σ : St} {e : Nat} {args : List AV} : opCall cf H σ e 180 args = callP cf.P σ e (H 180) [192, 23] (viewAll σ args) := call_pure Try.func180 (by kernel_rfl) (by kernel_rfl) rfl
theorem call181 {H : Handler} {σ : St} {e : Nat} {args : List AV} : opCall cf H σ e 181 args = callP cf.P σ e (H 181) [56, 197] (viewAll σ args) := call_pure Try.func181 (by kernel_rfl) (by kernel_rfl) rfl
theorem call182 {H : Handler} {σ : St} {e : Nat} {args : List AV} : opCall cf H σ e 182 args = callP cf.P σ e (H 182) [75] (viewAll σ args) := call_pure Try.func182 (by kernel_rfl) (by kernel_rfl) rfl
theorem call183 {H : Handler} {σ : St} {e : Nat} {args : List AV} : opCall cf H σ e 183 args = callP cf.P σ e (H 183) [75, 3] (viewAll σ args) := call_pure Try.func183 (by kernel_rfl) (by kernel_rfl) rfl
theorem call184 {H : Handler} {σ : St} {e : Nat} {args : List AV} : opCall cf H σ e 184 args = callP cf.P σ e (H 184) [56, 3] (viewAll σ args) := call_pure Try.func184 (by kernel_rfl) (by kernel_rfl) rfl
theorem call185 {H : Handler} {σ : St} {e : Nat} {args : List AV} : opCall cf H σ e 185 args = callP cf.P σ e (H 185) [56, 3, 3] (viewAll σ args) := call_pure Try.func185 (by kernel_rfl) (by kernel_rfl) rfl
theorem call186 {H : Handler} {σ : St} {e : Nat} {args : List AV} : opCall cf H σ e 186 args = callP cf.P σ e (H 186) [27, 3] (viewAll σ args) := call_pure Try.func186 (by kernel_rfl) (by kernel_rfl) rfl
theorem call187 {H : Handler} {σ : St} {e : Nat} {args : List AV} : opCall cf H σ e 187 args = callP cf.P σ e (H 187) [3, 3] (viewAll σ args) := call_pure Try.func187 (by kernel_rfl) (by kernel_rfl) rfl
theorem call188 {H : Handler} {σ : St} {e : Nat} {args : List AV} : opCall cf H σ e 188 args = callP cf.P σ e (H 188) [147, 3] (viewAll σ args) := call_pure Try.func188 (by kernel_rfl) (by kernel_rfl) rfl
theorem call189 {H : Handler} {σ : St} {e : Nat} {args : List AV} : opCall cf H σ e 189 args = callP cf.P σ e (H 189) [66, 147] (viewAll σ args) := call_pure Try.func189 (by kernel_rfl) (by kernel_rfl) rfl
theorem call190 {H : Handler} {σ : St} {e : Nat} {args : List AV} : opCall cf H σ e 190 args = callP cf.P σ e (H 190) [147, 3] (viewAll σ args) := call_pure Try.func190 (by kernel_rfl) (by kernel_rfl) rfl
theorem call191 {H : Handler} {σ : St} {e : Nat} {args : List AV} : opCall cf H σ e 191 args = callP cf.P σ e (H 191) [66, 9] (viewAll σ args) := call_pure Try.func191 (by kernel_rfl) (by kernel_rfl) rfl
theorem call192 {H : Handler} {σ : St} {e : Nat} {args : List AV} : opCall cf H σ e 192 args = callP cf.P σ e (H 192) [63, 9] (viewAll σ args) := call_pure Try.func192 (by kernel_rfl) (by kernel_rfl) rfl
theorem call193 {H : Handler} {σ : St} {e : Nat} {args : List AV} : opCall cf H σ e 193 args = callM cf.P σ e true [0] (H 193) [120, 3] args (withBoxes σ.objs (movedRefs [0] 0 args)) := call_moved Try.func193 (by kernel_rfl) (by kernel_rfl) rfl rfl
theorem call194 {H : Handler} {σ : St} {e : Nat} {args : List AV} : opCall cf H σ e 194 args = callP cf.P σ e (H 194) [3] (viewAll σ args) := call_pure Try.func194 (by kernel_rfl) (by kernel_rfl) rfl
theorem call195 {H : Handler} {σ : St} {e : Nat} {args : List AV} : opCall cf H σ e 195 args = callP cf.P σ e (H 195) [206, 3] (viewAll σ args) := call_pure Try.func195 (by kernel_rfl) (by kernel_rfl) rfl
theorem call196 {H : Handler} {σ : St} {e : Nat} {args : List AV} : opCall cf H σ e 196 args = callP cf.P σ e (H 196) [40, 88] (viewAll σ args) := call_pure Try.func196 (by kernel_rfl) (by kernel_rfl) rfl
theorem call197 {H : Handler} {σ : St} {e : Nat} {args : List AV} : opCall cf H σ e 197 args = callP cf.P σ e (H 197) [3, 3] (viewAll σ args) := call_pure Try.func197 (by kernel_rfl) (by kernel_rfl) rfl
theorem call198 {H : Handler} {σ : St} {e : Nat} {args : List AV} : opCall cf H σ e 198 args = callP cf.P σ e (H 198) [88, 3, 3] (viewAll σ args) := call_pure Try.func198 (by kernel_rfl) (by kernel_rfl) rfl
theorem call199 {H : Handler} {σ : St} {e : Nat} {args : List AV} : opCall cf H σ e 199 args = callP cf.P σ e (H 199) [93, 93] (viewAll σ args) := call_pure Try.func199 (by kernel_rfl) (by kernel_rfl) rfl
theorem call200 {H : Handler} {σ : St} {e : Nat} {args : List AV} : opCall cf H σ e 200 args = callP cf.P σ e (H 200) [206] (viewAll σ args) := call_pure Try.func200 (by kernel_rfl) (by kernel_rfl) rfl
theorem call201 {H : Handler} {σ : St} {e : Nat} {args : List AV} : opCall cf H σ e 201 args = callP cf.P σ e (H 201) [3, 3] (viewAll σ args) := call_pure Try.func201 (by kernel_rfl) (by kernel_rfl) rfl
theorem call202 {H : Handler} {σ : St} {e : Nat} {args : List AV} : opCall cf H σ e 202 args = callP cf.P σ e (H 202) [88, 93, 210] (viewAll σ args) := call_pure Try.func202 (by kernel_rfl) (by kernel_rfl) rfl
theorem call203 {H : Handler} {σ : St} {e : Nat} {args : List AV} : opCall cf H σ e 203 args = callP cf.P σ e (H 203) [93, 93] (viewAll σ args) := call_pure Try.func203 (by kernel_rfl) (by kernel_rfl) rfl
theorem call204 {H : Handler} {σ : St} {e : Nat} {args : List AV} : opCall cf H σ e 204 args = callP cf.P σ e (H 204) [88] (viewAll σ args) := call_pure Try.func204 (by kernel_rfl) (by kernel_rfl) rfl
theorem call205 {H : Handler} {σ : St} {e : Nat} {args : List AV} : opCall cf H σ e 205 args = callP cf.P σ e (H 205) [3, 3] (viewAll σ args) := call_pure Try.func205 (by kernel_rfl) (by kernel_rfl) rfl
theorem call206 {H : Handler} {σ : St} {e : Nat} {args : List AV} : opCall cf H σ e 206 args = callM cf.P σ e false [0] (H 206) [88, 3, 88] args (withBoxes σ.objs (movedRefs [0] 0 args)) := call_moved Try.func206 (by kernel_rfl) (by kernel_rfl) rfl rfl
theorem call207 {H : Handler} {σ : St} {e : Nat} {args : List AV} : opCall cf H σ e 207 args = callP cf.P σ e (H 207) [47, 47] (viewAll σ args) := call_pure Try.func207 (by kernel_rfl) (by kernel_rfl) rfl
theorem call208 {H : Handler} {σ : St} {e : Nat} {args : List AV} : opCall cf H σ e 208 args = callM cf.P σ e false [1] (H 208) [66, 40, 3] args (withBoxes σ.objs (movedRefs [1] 0 args)) := call_moved Try.func208 (by kernel_rfl) (by kernel_rfl) rfl rfl
theorem call209 {H : Handler} {σ : St} {e : Nat} {args : List AV} : opCall cf H σ e 209 args = callP cf.P σ e (H 209) [47] (viewAll σ args) := call_pure Try.func209 (by kernel_rfl) (by kernel_rfl) rfl
theorem call210 {H : Handler} {σ : St} {e : Nat} {args : List AV} : opCall cf H σ e 210 args = callP cf.P σ e (H 210) [] (viewAll σ args) := call_pure Try.func210 (by kernel_rfl) (by kernel_rfl) rfl
theorem call211 {H : Handler} {σ : St} {e : Nat} {args : List AV} : opCall cf H σ e 211 args = callM cf.P σ e true [0] (H 211) [120, 3] args (withBoxes σ.objs (movedRefs [0] 0 args)) := call_moved Try.func211 (by kernel_rfl) (by kernel_rfl) rfl rfl
theorem call212 {H : Handler} {σ : St} {e : Nat} {args : List AV} : opCall cf H σ e 212 args = callM cf.P σ e true [0] (H 212) [120] args (withBoxes σ.objs (movedRefs [0] 0 args)) := call_moved Try.func212 (by kernel_rfl) (by kernel_rfl) rfl rfl
theorem call213 {H : Handler} {σ : St} {e : Nat} {args : List AV} : opCall cf H σ e 213 args = callM cf.P σ e true [0] (H 213) [120, 66, 3, 3] args (withBoxes σ.objs (movedRefs [0] 0 args)) := call_moved Try.func213 (by kernel_rfl) (by kernel_rfl) rfl rfl
theorem call214 {H : Handler} {σ : St} {e : Nat} {args : List AV} : opCall cf H σ e 214 args = callM cf.P σ e true [0] (H 214) [120, 40] args (withBoxes σ.objs (movedRefs [0] 0 args)) := call_moved Try.func214 (by kernel_rfl) (by kernel_rfl) rfl rfl
theorem call215 {H : Handler} {σ : St} {e : Nat} {args : List AV} : opCall cf H σ e 215 args = callP cf.P σ e (H 215) [40, 88, 93] (viewAll σ args) := call_pure Try.func215 (by kernel_rfl) (by kernel_rfl) rfl
theorem call216 {H : Handler} {σ : St} {e : Nat} {args : List AV} : opCall cf H σ e 216 args = callP cf.P σ e (H 216) [88] (viewAll σ args) := call_pure Try.func216 (by kernel_rfl) (by kernel_rfl) rfl
theorem call217 {H : Handler} {σ : St} {e : Nat} {args : List AV} : opCall cf H σ e 217 args = callP cf.P σ e (H 217) [40, 88] (viewAll σ args) := call_pure Try.func217 (by kernel_rfl) (by kernel_rfl) rfl
theorem call218 {H : Handler} {σ : St} {e : Nat} {args : List AV} : opCall cf H σ e 218 args = callP cf.P σ e (H 218) [3] (viewAll σ args) := call_pure Try.func218 (by kernel_rfl) (by kernel_rfl) rfl
theorem call219 {H : Handler} {σ : St} {e : Nat} {args : List AV} : opCall cf H σ e 219 args = callP cf.P σ e (H 219) [88, 3, 3] (viewAll σ args) := call_pure Try.func219 (by kernel_rfl) (by kernel_rfl) rfl
theorem call220 {H : Handler} {σ : St} {e : Nat} {args : List AV} : opCall cf H σ e 220 args = callP cf.P σ e (H 220) [168, 93, 3] (viewAll σ args) := call_pure Try.func220 (by kernel_rfl) (by kernel_rfl) rfl
theorem call221 {H : Handler} {σ : St} {e : Nat} {args : List AV} : opCall cf H σ e 221 args = callM cf.P σ e true [0] (H 221) [27, 3, 27] args (withBoxes σ.objs (movedRefs [0] 0 args)) := call_moved Try.func221 (by kernel_rfl) (by kernel_rfl) rfl rfl
theorem call222 {H : Handler} {σ : St} {e : Nat} {args : List AV} : opCall cf H σ e 222 args = callP cf.P σ e (H 222) [40] (viewAll σ args) := call_pure Try.func222 (by kernel_rfl) (by kernel_rfl) rfl
theorem call223 {H : Handler} {σ : St} {e : Nat} {args : List AV} : opCall cf H σ e 223 args = callP cf.P σ e (H 223) [40] (viewAll σ args) := call_pure Try.func223 (by kernel_rfl) (by kernel_rfl) rfl
theorem call224 {H : Handler} {σ : St} {e : Nat} {args : List AV} : opCall cf H σ e 224 args = callP cf.P σ e (H 224) [27, 3] (viewAll σ args) := call_pure Try.func224 (by kernel_rfl) (by kernel_rfl) rfl
theorem call225 {H : Handler} {σ : St} {e : Nat} {args : List AV} : opCall cf H σ e 225 args = callM cf.P σ e false [0, 1] (H 225) [38, 47] args (withBoxes σ.objs (movedRefs [0, 1] 0 args)) := call_moved Try.func225 (by kernel_rfl) (by kernel_rfl) rfl rfl
theorem call226 {H : Handler} {σ : St} {e : Nat} {args : List AV} : opCall cf H σ e 226 args = callM cf.P σ e false [0] (H 226) [168] args (withBoxes σ.objs (movedRefs [0] 0 args)) := call_moved Try.func226 (by kernel_rfl) (by kernel_rfl) rfl rfl
theorem call227 {H : Handler} {σ : St} {e : Nat} {args : List AV} : opCall cf H σ e 227 args = callP cf.P σ e (H 227) [22, 152] (viewAll σ args) := call_pure Try.func227 (by kernel_rfl) (by kernel_rfl) rfl
theorem call228 {H : Handler} {σ : St} {e : Nat} {args : List AV} : opCall cf H σ e 228 args = callP cf.P σ e (H 228) [27, 128] (viewAll σ args) := call_pure Try.func228 (by kernel_rfl) (by kernel_rfl) rfl
theorem call229 {H : Handler} {σ : St} {e : Nat} {args : List AV} : opCall cf H σ e 229 args = callP cf.P σ e (H 229) [40, 3] (viewAll σ args) := call_pure Try.func229 (by kernel_rfl) (by kernel_rfl) rfl
theorem call230 {H : Handler} {σ : St} {e : Nat} {args : List AV} : opCall cf H σ e 230 args = callP cf.P σ e (H 230) [3] (viewAll σ args) := call_pure Try.func230 (by kernel_rfl) (by kernel_rfl) rfl
theorem call231 {H : Handler} {σ : St} {e : Nat} {args : List AV} : opCall cf H σ e 231 args = callP cf.P σ e (H 231) [23, 23] (viewAll σ args) := call_pure Try.func231 (by kernel_rfl) (by kernel_rfl) rfl
theorem call232 {H : Handler} {σ : St} {e : Nat} {args : List AV} : opCall cf H σ e 232 args = callP cf.P σ e (H 232) [56, 197] (viewAll σ args) := call_pure Try.func232 (by kernel_rfl) (by kernel_rfl) rfl
theorem call233 {H : Handler} {σ : St} {e : Nat} {args : List AV} : opCall cf H σ e 233 args = callP cf.P σ e (H 233) [9] (viewAll σ args) := call_pure Try.func233 (by kernel_rfl) (by kernel_rfl) rfl
theorem call234 {H : Handler} {σ : St} {e : Nat} {args : List AV} : opCall cf H σ e 234 args = callP cf.P σ e (H 234) [66, 75] (viewAll σ args) := call_pure Try.func234 (by kernel_rfl) (by kernel_rfl) rfl
theorem call235 {H : Handler} {σ : St} {e : Nat} {args : List AV} : opCall cf H σ e 235 args = callP cf.P σ e (H 235) [9] (viewAll σ args) := call_pure Try.func235 (by kernel_rfl) (by kernel_rfl) rfl
theorem call236 {H : Handler} {σ : St} {e : Nat} {args : List AV} : opCall cf H σ e 236 args = callP cf.P σ e (H 236) [66, 232] (viewAll σ args) := call_pure Try.func236 (by kernel_rfl) (by kernel_rfl) rfl
theorem call237 {H : Handler} {σ : St} {e : Nat} {args : List AV} : opCall cf H σ e 237 args = callP cf.P σ e (H 237) [147] (viewAll σ args) := call_pure Try.func237 (by kernel_rfl) (by kernel_rfl) rfl
theorem call238 {H : Handler} {σ : St} {e : Nat} {args : List AV} : opCall cf H σ e 238 args = callP cf.P σ e (H 238) [233, 3] (viewAll σ args) := call_pure Try.func238 (by kernel_rfl) (by kernel_rfl) rfl
theorem call239 {H : Handler} {σ : St} {e : Nat} {args : List AV} : opCall cf H σ e 239 args = callP cf.P σ e (H 239) [233, 9] (viewAll σ args) := call_pure Try.func239 (by kernel_rfl) (by kernel_rfl) rfl
theorem call240 {H : Handler} {σ : St} {e : Nat} {args : List AV} : opCall cf H σ e 240 args = callP cf.P σ e (H 240) [233] (viewAll σ args) := call_pure Try.func240 (by kernel_rfl) (by kernel_rfl) rfl
theorem call241 {H : Handler} {σ : St} {e : Nat} {args : List AV} : opCall cf H σ e 241 args = callP cf.P σ e (H 241) [40, 88] (viewAll σ args) := call_pure Try.func241 (by kernel_rfl) (by kernel_rfl) rfl
theorem call242 {H : Handler} {σ : St} {e : Nat} {args : List AV} : opCall cf H σ e 242 args = callP cf.P σ e (H 242) [27] (viewAll σ args) := call_pure Try.func242 (by kernel_rfl) (by kernel_rfl) rfl
theorem call243 {H : Handler} {σ : St} {e : Nat} {args : List AV} : opCall cf H σ e 243 args = callP cf.P σ e (H 243) [3, 3] (viewAll σ args) := call_pure Try.func243 (by kernel_rfl) (by kernel_rfl) rfl
theorem call245 {H : Handler} {σ : St} {e : Nat} {args : List AV} : opCall cf H σ e 245 args = callP cf.P σ e (H 245) [88, 3] (viewAll σ args) := call_pure Try.func245 (by kernel_rfl) (by kernel_rfl) rfl
theorem call246 {H : Handler} {σ : St} {e : Nat} {args : List AV} : opCall cf H σ e 246 args = callP cf.P σ e (H 246) [88] (viewAll σ args) := call_pure Try.func246 (by kernel_rfl) (by kernel_rfl) rfl
theorem call247 {H : Handler} {σ : St} {e : Nat} {args : List AV} : opCall cf H σ e 247 args = callP cf.P σ e (H 247) [40, 88, 93, 3] (viewAll σ args) := call_pure Try.func247 (by kernel_rfl) (by kernel_rfl) rfl
theorem call248 {H : Handler} {σ : St} {e : Nat} {args : List AV} : opCall cf H σ e 248 args = callP cf.P σ e (H 248) [168, 93] (viewAll σ args) := call_pure Try.func248 (by kernel_rfl) (by kernel_rfl) rfl
theorem call249 {H : Handler} {σ : St} {e : Nat} {args : List AV} : opCall cf H σ e 249 args = callP cf.P σ e (H 249) [168, 3, 3] (viewAll σ args) := call_pure Try.func249 (by kernel_rfl) (by kernel_rfl) rfl
theorem call250 {H : Handler} {σ : St} {e : Nat} {args : List AV} : opCall cf H σ e 250 args = callP cf.P σ e (H 250) [3] (viewAll σ args) := call_pure Try.func250 (by kernel_rfl) (by kernel_rfl) rfl
theorem call252 {H : Handler} {σ : St} {e : Nat} {args : List AV} : opCall cf H σ e 252 args = callP cf.P σ e (H 252) [27, 3] (viewAll σ args) := call_pure Try.func252 (by kernel_rfl) (by kernel_rfl) rfl
theorem call253 {H : Handler} {σ : St} {e : Nat} {args : List AV} : opCall cf H σ e 253 args = callP cf.P σ e (H 253) [47, 3] (viewAll σ args) := call_pure Try.func253 (by kernel_rfl) (by kernel_rfl) rfl
theorem call254 {H : Handler} {σ : St} {e : Nat} {args : List AV} : opCall cf H σ e 254 args = callM cf.P σ e false [0] (H 254) [38, 250] args (withBoxes σ.objs (movedRefs [0] 0 args)) := call_moved Try.func254 (by kernel_rfl) (by kernel_rfl) rfl rfl
theorem call255 {H : Handler} {σ : St} {e : Nat} {args : List AV} : opCall cf H σ e 255 args = callP cf.P σ e (H 255) [47, 47] (viewAll σ args) := call_pure Try.func255 (by kernel_rfl) (by kernel_rfl) rfl
theorem call256 {H : Handler} {σ : St} {e : Nat} {args : List AV} : opCall cf H σ e 256 args = callP cf.P σ e (H 256) [5] (viewAll σ args) := call_pure Try.func256 (by kernel_rfl) (by kernel_rfl) rfl
theorem call257 {H : Handler} {σ : St} {e : Nat} {args : List AV} : opCall cf H σ e 257 args = callP cf.P σ e (H 257) [5] (viewAll σ args) := call_pure Try.func257 (by kernel_rfl) (by kernel_rfl) rfl
theorem call258 {H : Handler} {σ : St} {e : Nat} {args : List AV} : opCall cf H σ e 258 args = callP cf.P σ e (H 258) [5] (viewAll σ args) := call_pure Try.func258 (by kernel_rfl) (by kernel_rfl) rfl
theorem call259 {H : Handler} {σ : St} {e : Nat} {args : List AV} : opCall cf H σ e 259 args = callP cf.P σ e (H 259) [233] (viewAll σ args) := call_pure Try.func259 (by kernel_rfl) (by kernel_rfl) rfl

theorem callsE : type_of% (And.intro (And.intro (And.intro (And.intro (And.intro (And.intro (And.intro (And.intro @call2 @call3) (And.intro @call4 @call5)) (And.intro (And.intro @call6 @call7) (And.intro @call8 @call9))) (And.intro (And.intro (And.intro @call10 @call11) (And.intro @call12 @call13)) (And.intro (And.intro @call14 @call15) (And.intro @call16 @call17)))) (And.intro (And.intro (And.intro (And.intro @call18 @call19) (And.intro @call20 @call21)) (And.intro (And.intro @call22 @call23) (And.intro @call24 @call25))) (And.intro (And.intro (And.intro @call26 @call27) (And.intro @call28 @call29)) (And.intro (And.intro @call30 @call31) (And.intro @call32 @call33))))) (And.intro (And.intro (And.intro (And.intro (And.intro @call34 @call35) (And.intro @call36 @call37)) (And.intro (And.intro @call38 @call39) (And.intro @call40 @call41))) (And.intro (And.intro (And.intro @call42 @call43) (And.intro @call44 @call45)) (And.intro (And.intro @call46 @call47) (And.intro @call48 @call49)))) (And.intro (And.intro (And.intro (And.intro @call50 @call51) (And.intro @call52 @call53)) (And.intro (And.intro @call54 @call55) (And.intro @call56 @call57))) (And.intro (And.intro (And.intro @call58 @call59) (And.intro @call60 @call61)) (And.intro (And.intro @call62 @call63) (And.intro @call64 @call65)))))) (And.intro (And.intro (And.intro (And.intro (And.intro (And.intro @call66 @call67) (And.intro @call68 @call69)) (And.intro (And.intro @call70 @call71) (And.intro @call72 @call73))) (And.intro (And.intro (And.intro @call74 @call75) (And.intro @call76 @call77)) (And.intro (And.intro @call78 @call79) (And.intro @call80 @call81)))) (And.intro (And.intro (And.intro (And.intro @call82 @call83) (And.intro @call84 @call85)) (And.intro (And.intro @call86 @call87) (And.intro @call88 @call89))) (And.intro (And.intro (And.intro @call90 @call91) (And.intro @call92 @call93)) (And.intro (And.intro @call94 @call95) (And.intro @call96 @call97))))) (And.intro (And.intro (And.intro (And.intro (And.intro @call98 @call99) (And.intro @call100 @call101)) (And.intro (And.intro @call102 @call103) (And.intro @call104 @call105))) (And.intro (And.intro (And.intro @call106 @call107) (And.intro @call108 @call109)) (And.intro (And.intro @call110 @call111) (And.intro @call112 @call113)))) (And.intro (And.intro (And.intro (And.intro @call114 @call115) (And.intro @call116 @call117)) (And.intro (And.intro @call118 @call119) (And.intro @call120 @call121))) (And.intro (And.intro (And.intro @call122 @call123) (And.intro @call124 @call125)) (And.intro (And.intro @call126 @call127) (And.intro @call128 @call129))))))) (And.intro (And.intro (And.intro (And.intro (And.intro (And.intro (And.intro @call130 @call131) (And.intro @call132 @call133)) (And.intro (And.intro @call134 @call135) (And.intro @call136 @call137))) (And.intro (And.intro (And.intro @call138 @call139) (And.intro @call140 @call141)) (And.intro (And.intro @call142 @call143) (And.intro @call144 @call145)))) (And.intro (And.intro (And.intro (And.intro @call146 @call147) (And.intro @call148 @call149)) (And.intro (And.intro @call150 @call151) (And.intro @call152 @call153))) (And.intro (And.intro (And.intro @call154 @call155) (And.intro @call156 @call157)) (And.intro (And.intro @call158 @call159) (And.intro @call160 @call161))))) (And.intro (And.intro (And.intro (And.intro (And.intro @call162 @call163) (And.intro @call164 @call165)) (And.intro (And.intro @call166 @call167) (And.intro @call168 @call169))) (And.intro (And.intro (And.intro @call170 @call171) (And.intro @call172 @call173)) (And.intro (And.intro @call174 @call175) (And.intro @call176 @call177)))) (And.intro (And.intro (And.intro (And.intro @call178 @call179) (And.intro @call180 @call181)) (And.intro (And.intro @call182 @call183) (And.intro @call184 @call185))) (And.intro (And.intro (And.intro @call186 @call187) (And.intro @call188 @call189)) (And.intro (And.intro @call190 @call191) (And.intro @call192 @call193)))))) (And.intro (And.intro (And.intro (And.intro (And.intro (And.intro @call194 @call195) (And.intro @call196 @call197)) (And.intro (And.intro @call198 @call199) (And.intro @call200 @call201))) (And.intro (And.intro (And.intro @call202 @call203) (And.intro @call204 @call205)) (And.intro (And.intro @call206 @call207) (And.intro @call208 @call209)))) (And.intro (And.intro (And.intro (And.intro @call210 @call211) (And.intro @call212 @call213)) (And.intro (And.intro @call214 @call215) (And.intro @call216 @call217))) (And.intro (And.intro (And.intro @call218 @call219) (And.intro @call220 @call221)) (And.intro (And.intro @call222 @call223) (And.intro @call224 @call225))))) (And.intro (And.intro (And.intro (And.intro (And.intro @call226 @call227) (And.intro @call228 @call229)) (And.intro (And.intro @call230 @call231) (And.intro @call232 @call233))) (And.intro (And.intro (And.intro @call234 @call235) (And.intro @call236 @call237)) (And.intro (And.intro @call238 @call239) (And.intro @call240 @call241)))) (And.intro (And.intro (And.intro (And.intro @call242 @call243) (And.intro @call245 @call246)) (And.intro (And.intro @call247 @call248) (And.intro @call249 @call250))) (And.intro (And.intro (And.intro @call252 @call253) (And.intro @call254 @call255)) (And.intro (And.intro @call256 @call257) (And.intro @call258 @call259)))))))) :=
  (And.intro (And.intro (And.intro (And.intro (And.intro (And.intro (And.intro (And.intro @call2 @call3) (And.intro @call4 @call5)) (And.intro (And.intro @call6 @call7) (And.intro @call8 @call9))) (And.intro (And.intro (And.intro @call10 @call11) (And.intro @call12 @call13)) (And.intro (And.intro @call14 @call15) (And.intro @call16 @call17)))) (And.intro (And.intro (And.intro (And.intro @call18 @call19) (And.intro @call20 @call21)) (And.intro (And.intro @call22 @call23) (And.intro @call24 @call25))) (And.intro (And.intro (And.intro @call26 @call27) (And.intro @call28 @call29)) (And.intro (And.intro @call30 @call31) (And.intro @call32 @call33))))) (And.intro (And.intro (And.intro (And.intro (And.intro @call34 @call35) (And.intro @call36 @call37)) (And.intro (And.intro @call38 @call39) (And.intro @call40 @call41))) (And.intro (And.intro (And.intro @call42 @call43) (And.intro @call44 @call45)) (And.intro (And.intro @call46 @call47) (And.intro @call48 @call49)))) (And.intro (And.intro (And.intro (And.intro @call50 @call51) (And.intro @call52 @call53)) (And.intro (And.intro @call54 @call55) (And.intro @call56 @call57))) (And.intro (And.intro (And.intro @call58 @call59) (And.intro @call60 @call61)) (And.intro (And.intro @call62 @call63) (And.intro @call64 @call65)))))) (And.intro (And.intro (And.intro (And.intro (And.intro (And.intro @call66 @call67) (And.intro @call68 @call69)) (And.intro (And.intro @call70 @call71) (And.intro @call72 @call73))) (And.intro (And.intro (And.intro @call74 @call75) (And.intro @call76 @call77)) (And.intro (And.intro @call78 @call79) (And.intro @call80 @call81)))) (And.intro (And.intro (And.intro (And.intro @call82 @call83) (And.intro @call84 @call85)) (And.intro (And.intro @call86 @call87) (And.intro @call88 @call89))) (And.intro (And.intro (And.intro @call90 @call91) (And.intro @call92 @call93)) (And.intro (And.intro @call94 @call95) (And.intro @call96 @call97))))) (And.intro (And.intro (And.intro (And.intro (And.intro @call98 @call99) (And.intro @call100 @call101)) (And.intro (And.intro @call102 @call103) (And.intro @call104 @call105))) (And.intro (And.intro (And.intro @call106 @call107) (And.intro @call108 @call109)) (And.intro (And.intro @call110 @call111) (And.intro @call112 @call113)))) (And.intro (And.intro (And.intro (And.intro @call114 @call115) (And.intro @call116 @call117)) (And.intro (And.intro @call118 @call119) (And.intro @call120 @call121))) (And.intro (And.intro (And.intro @call122 @call123) (And.intro @call124 @call125)) (And.intro (And.intro @call126 @call127) (And.intro @call128 @call129))))))) (And.intro (And.intro (And.intro (And.intro (And.intro (And.intro (And.intro @call130 @call131) (And.intro @call132 @call133)) (And.intro (And.intro @call134 @call135) (And.intro @call136 @call137))) (And.intro (And.intro (And.intro @call138 @call139) (And.intro @call140 @call141)) (And.intro (And.intro @call142 @call143) (And.intro @call144 @call145)))) (And.intro (And.intro (And.intro (And.intro @call146 @call147) (And.intro @call148 @call149)) (And.intro (And.intro @call150 @call151) (And.intro @call152 @call153))) (And.intro (And.intro (And.intro @call154 @call155) (And.intro @call156 @call157)) (And.intro (And.intro @call158 @call159) (And.intro @call160 @call161))))) (And.intro (And.intro (And.intro (And.intro (And.intro @call162 @call163) (And.intro @call164 @call165)) (And.intro (And.intro @call166 @call167) (And.intro @call168 @call169))) (And.intro (And.intro (And.intro @call170 @call171) (And.intro @call172 @call173)) (And.intro (And.intro @call174 @call175) (And.intro @call176 @call177)))) (And.intro (And.intro (And.intro (And.intro @call178 @call179) (And.intro @call180 @call181)) (And.intro (And.intro @call182 @call183) (And.intro @call184 @call185))) (And.intro (And.intro (And.intro @call186 @call187) (And.intro @call188 @call189)) (And.intro (And.intro @call190 @call191) (And.intro @call192 @call193)))))) (And.intro (And.intro (And.intro (And.intro (And.intro (And.intro @call194 @call195) (And.intro @call196 @call197)) (And.intro (And.intro @call198 @call199) (And.intro @call200 @call201))) (And.intro (And.intro (And.intro @call202 @call203) (And.intro @call204 @call205)) (And.intro (And.intro @call206 @call207) (And.intro @call208 @call209)))) (And.intro (And.intro (And.intro (And.intro @call210 @call211) (And.intro @call212 @call213)) (And.intro (And.intro @call214 @call215) (And.intro @call216 @call217))) (And.intro (And.intro (And.intro @call218 @call219) (And.intro @call220 @call221)) (And.intro (And.intro @call222 @call223) (And.intro @call224 @call225))))) (And.intro (And.intro (And.intro (And.intro (And.intro @call226 @call227) (And.intro @call228 @call229)) (And.intro (And.intro @call230 @call231) (And.intro @call232 @call233))) (And.intro (And.intro (And.intro @call234 @call235) (And.intro @call236 @call237)) (And.intro (And.intro @call238 @call239) (And.intro @call240 @call241)))) (And.intro (And.intro (And.intro (And.intro @call242 @call243) (And.intro @call245 @call246)) (And.intro (And.intro @call247 @call248) (And.intro @call249 @call250))) (And.intro (And.intro (And.intro @call252 @call253) (And.intro @call254 @call255)) (And.intro (And.intro @call256 @call257) (And.intro @call258 @call259))))))))

end Go.AM
