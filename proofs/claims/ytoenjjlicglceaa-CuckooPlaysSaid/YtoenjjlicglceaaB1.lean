/-
  Closed facts on this claim's program, written by wip/gen.py: texts that pass the check, fields, arrays, slices.
-/
import Derived.Test.YtoenjjlicglceaaChecked
import Derived.Test.YtoenjjlicglceaaK3
import Derived.KernelRfl
namespace Go.Fl
open Go.Proofs
theorem mixed : Try.prog.follows .mixedOrders = true := by kernel_rfl
theorem ok_3 : okFn Try.f3 [] = true := by kernel_rfl
theorem ok_4 : okFn Try.f4 [] = true := by kernel_rfl
theorem ok_5 : okFn Try.f5 [4] = true := by kernel_rfl
theorem ok_6 : okFn Try.f6 [14, 25] = true := by kernel_rfl
theorem ok_7 : okFn Try.f7 [12] = true := by kernel_rfl
theorem ok_8 : okFn Try.f8 [4] = true := by kernel_rfl
theorem ok_9 : okFn Try.f9 [] = true := by kernel_rfl
theorem ok_10 : okFn Try.f10 [] = true := by kernel_rfl
theorem ok_11 : okFn Try.f11 [] = true := by kernel_rfl
theorem ok_12 : okFn Try.f12 [] = true := by kernel_rfl
theorem ok_13 : okFn Try.f13 [] = true := by kernel_rfl
theorem ok_14 : okFn Try.f14 [13] = true := by kernel_rfl
theorem ok_15 : okFn Try.f15 [] = true := by kernel_rfl
theorem ok_16 : okFn Try.f16 [] = true := by kernel_rfl
theorem ok_17 : okFn Try.f17 [] = true := by kernel_rfl
theorem ok_18 : okFn Try.f18 [] = true := by kernel_rfl
theorem ok_19 : okFn Try.f19 [1] = true := by kernel_rfl
theorem ok_20 : okFn Try.f20 [] = true := by kernel_rfl
theorem ok_21 : okFn Try.f21 [] = true := by kernel_rfl
theorem ok_22 : okFn Try.f22 [] = true := by kernel_rfl
theorem ok_23 : okFn Try.f23 [] = true := by kernel_rfl
theorem ok_24 : okFn Try.f24 [] = true := by kernel_rfl
theorem ok_25 : okFn Try.f25 [1] = true := by kernel_rfl
theorem ok_26 : okFn Try.f26 [] = true := by kernel_rfl
theorem ok_27 : okFn Try.f27 [] = true := by kernel_rfl
theorem ok_28 : okFn Try.f28 [] = true := by kernel_rfl
theorem ok_29 : okFn Try.f29 [] = true := by kernel_rfl
theorem ok_30 : okFn Try.f30 [] = true := by kernel_rfl
theorem ok_31 : okFn Try.f31 [] = true := by kernel_rfl
theorem ok_32 : okFn Try.f32 [] = true := by kernel_rfl
theorem ok_33 : okFn Try.f33 [] = true := by kernel_rfl
theorem ok_34 : okFn Try.f34 [] = true := by kernel_rfl
theorem ok_35 : okFn Try.f35 [] = true := by kernel_rfl
theorem ok_36 : okFn Try.f36 [] = true := by kernel_rfl
theorem ok_37 : okFn Try.f37 [] = true := by kernel_rfl
theorem ok_38 : okFn Try.f38 [] = true := by kernel_rfl
theorem ok_39 : okFn Try.f39 [8] = true := by kernel_rfl
theorem ok_40 : okFn Try.f40 [] = true := by kernel_rfl
theorem ok_41 : okFn Try.f41 [] = true := by kernel_rfl
theorem ok_42 : okFn Try.f42 [] = true := by kernel_rfl
theorem ok_43 : okFn Try.f43 [] = true := by kernel_rfl
theorem ok_44 : okFn Try.f44 [] = true := by kernel_rfl
theorem ok_45 : okFn Try.f45 [1] = true := by kernel_rfl
theorem ok_46 : okFn Try.f46 [1] = true := by kernel_rfl
theorem ok_47 : okFn Try.f47 [] = true := by kernel_rfl
theorem ok_48 : okFn Try.f48 [] = true := by kernel_rfl
theorem ok_49 : okFn Try.f49 [] = true := by kernel_rfl
theorem ok_50 : okFn Try.f50 [] = true := by kernel_rfl
theorem ok_51 : okFn Try.f51 [3] = true := by kernel_rfl
theorem ok_52 : okFn Try.f52 [] = true := by kernel_rfl
theorem ok_53 : okFn Try.f53 [] = true := by kernel_rfl
theorem ok_54 : okFn Try.f54 [] = true := by kernel_rfl
theorem ok_55 : okFn Try.f55 [] = true := by kernel_rfl
theorem ok_56 : okFn Try.f56 [5] = true := by kernel_rfl
theorem ok_57 : okFn Try.f57 [] = true := by kernel_rfl
theorem ok_58 : okFn Try.f58 [] = true := by kernel_rfl
theorem ok_59 : okFn Try.f59 [] = true := by kernel_rfl
theorem ok_60 : okFn Try.f60 [] = true := by kernel_rfl
theorem ok_61 : okFn Try.f61 [] = true := by kernel_rfl
theorem ok_62 : okFn Try.f62 [] = true := by kernel_rfl
theorem ok_63 : okFn Try.f63 [] = true := by kernel_rfl
theorem ok_64 : okFn Try.f64 [] = true := by kernel_rfl
theorem ok_65 : okFn Try.f65 [] = true := by kernel_rfl
theorem ok_66 : okFn Try.f66 [] = true := by kernel_rfl
theorem ok_67 : okFn Try.f67 [1] = true := by kernel_rfl
theorem ok_68 : okFn Try.f68 [] = true := by kernel_rfl
theorem ok_69 : okFn Try.f69 [] = true := by kernel_rfl
theorem ok_70 : okFn Try.f70 [] = true := by kernel_rfl
theorem ok_71 : okFn Try.f71 [] = true := by kernel_rfl
theorem ok_72 : okFn Try.f72 [] = true := by kernel_rfl
theorem ok_73 : okFn Try.f73 [11] = true := by kernel_rfl
theorem ok_74 : okFn Try.f74 [] = true := by kernel_rfl
theorem ok_75 : okFn Try.f75 [] = true := by kernel_rfl
theorem ok_76 : okFn Try.f76 [] = true := by kernel_rfl
theorem ok_77 : okFn Try.f77 [] = true := by kernel_rfl
theorem ok_78 : okFn Try.f78 [] = true := by kernel_rfl
theorem ok_79 : okFn Try.f79 [] = true := by kernel_rfl
theorem ok_80 : okFn Try.f80 [5] = true := by kernel_rfl
theorem ok_81 : okFn Try.f81 [] = true := by kernel_rfl
theorem ok_82 : okFn Try.f82 [] = true := by kernel_rfl
theorem ok_83 : okFn Try.f83 [] = true := by kernel_rfl
theorem ok_84 : okFn Try.f84 [] = true := by kernel_rfl
theorem ok_85 : okFn Try.f85 [] = true := by kernel_rfl
theorem ok_86 : okFn Try.f86 [] = true := by kernel_rfl
theorem ok_87 : okFn Try.f87 [] = true := by kernel_rfl
theorem ok_88 : okFn Try.f88 [] = true := by kernel_rfl
theorem ok_89 : okFn Try.f89 [] = true := by kernel_rfl
theorem ok_90 : okFn Try.f90 [] = true := by kernel_rfl
theorem ok_91 : okFn Try.f91 [] = true := by kernel_rfl
theorem ok_92 : okFn Try.f92 [] = true := by kernel_rfl
theorem ok_93 : okFn Try.f93 [] = true := by kernel_rfl
theorem ok_94 : okFn Try.f94 [] = true := by kernel_rfl
theorem ok_95 : okFn Try.f95 [] = true := by kernel_rfl
theorem ok_96 : okFn Try.f96 [] = true := by kernel_rfl
theorem ok_97 : okFn Try.f97 [] = true := by kernel_rfl
theorem ok_98 : okFn Try.f98 [] = true := by kernel_rfl
theorem ok_99 : okFn Try.f99 [] = true := by kernel_rfl
theorem ok_100 : okFn Try.f100 [] = true := by kernel_rfl
theorem ok_102 : okFn Try.f102 [] = true := by kernel_rfl
theorem ok_103 : okFn Try.f103 [] = true := by kernel_rfl
theorem ok_104 : okFn Try.f104 [] = true := by kernel_rfl
theorem ok_105 : okFn Try.f105 [] = true := by kernel_rfl
theorem ok_106 : okFn Try.f106 [] = true := by kernel_rfl
theorem ok_107 : okFn Try.f107 [] = true := by kernel_rfl
theorem ok_108 : okFn Try.f108 [] = true := by kernel_rfl
theorem ok_109 : okFn Try.f109 [] = true := by kernel_rfl
theorem ok_110 : okFn Try.f110 [] = true := by kernel_rfl
theorem ok_111 : okFn Try.f111 [] = true := by kernel_rfl
theorem ok_112 : okFn Try.f112 [] = true := by kernel_rfl
theorem ok_113 : okFn Try.f113 [10] = true := by kernel_rfl
theorem ok_114 : okFn Try.f114 [1] = true := by kernel_rfl
theorem ok_115 : okFn Try.f115 [] = true := by kernel_rfl
theorem ok_116 : okFn Try.f116 [] = true := by kernel_rfl
theorem ok_117 : okFn Try.f117 [] = true := by kernel_rfl
theorem ok_118 : okFn Try.f118 [] = true := by kernel_rfl
theorem ok_119 : okFn Try.f119 [] = true := by kernel_rfl
theorem ok_120 : okFn Try.f120 [] = true := by kernel_rfl
theorem ok_121 : okFn Try.f121 [] = true := by kernel_rfl
theorem ok_122 : okFn Try.f122 [] = true := by kernel_rfl
theorem ok_123 : okFn Try.f123 [] = true := by kernel_rfl
theorem ok_124 : okFn Try.f124 [] = true := by kernel_rfl
theorem ok_125 : okFn Try.f125 [] = true := by kernel_rfl
theorem ok_126 : okFn Try.f126 [] = true := by kernel_rfl
theorem ok_127 : okFn Try.f127 [6] = true := by kernel_rfl
theorem ok_128 : okFn Try.f128 [1] = true := by kernel_rfl
theorem ok_129 : okFn Try.f129 [] = true := by kernel_rfl
theorem ok_130 : okFn Try.f130 [1] = true := by kernel_rfl
theorem ok_131 : okFn Try.f131 [] = true := by kernel_rfl
theorem ok_132 : okFn Try.f132 [] = true := by kernel_rfl
theorem ok_133 : okFn Try.f133 [] = true := by kernel_rfl
theorem ok_134 : okFn Try.f134 [] = true := by kernel_rfl
theorem ok_135 : okFn Try.f135 [1] = true := by kernel_rfl
theorem ok_136 : okFn Try.f136 [] = true := by kernel_rfl
theorem ok_137 : okFn Try.f137 [] = true := by kernel_rfl
theorem ok_138 : okFn Try.f138 [] = true := by kernel_rfl
theorem ok_139 : okFn Try.f139 [] = true := by kernel_rfl
theorem ok_140 : okFn Try.f140 [] = true := by kernel_rfl
theorem ok_141 : okFn Try.f141 [] = true := by kernel_rfl
theorem ok_142 : okFn Try.f142 [] = true := by kernel_rfl
theorem ok_143 : okFn Try.f143 [] = true := by kernel_rfl
theorem ok_144 : okFn Try.f144 [] = true := by kernel_rfl
theorem ok_145 : okFn Try.f145 [] = true := by kernel_rfl
theorem ok_146 : okFn Try.f146 [] = true := by kernel_rfl
theorem ok_147 : okFn Try.f147 [] = true := by kernel_rfl
theorem ok_148 : okFn Try.f148 [] = true := by kernel_rfl
theorem ok_149 : okFn Try.f149 [] = true := by kernel_rfl
theorem ok_150 : okFn Try.f150 [] = true := by kernel_rfl
theorem ok_151 : okFn Try.f151 [] = true := by kernel_rfl
theorem ok_152 : okFn Try.f152 [] = true := by kernel_rfl
theorem ok_153 : okFn Try.f153 [] = true := by kernel_rfl
theorem ok_154 : okFn Try.f154 [] = true := by kernel_rfl
theorem ok_155 : okFn Try.f155 [] = true := by kernel_rfl
theorem ok_156 : okFn Try.f156 [] = true := by kernel_rfl
theorem ok_157 : okFn Try.f157 [] = true := by kernel_rfl
theorem ok_158 : okFn Try.f158 [] = true := by kernel_rfl
theorem ok_159 : okFn Try.f159 [] = true := by kernel_rfl
theorem ok_160 : okFn Try.f160 [] = true := by kernel_rfl
theorem ok_161 : okFn Try.f161 [] = true := by kernel_rfl
theorem ok_162 : okFn Try.f162 [] = true := by kernel_rfl
theorem ok_163 : okFn Try.f163 [] = true := by kernel_rfl
theorem ok_164 : okFn Try.f164 [] = true := by kernel_rfl
theorem ok_165 : okFn Try.f165 [] = true := by kernel_rfl
theorem ok_166 : okFn Try.f166 [] = true := by kernel_rfl
theorem ok_167 : okFn Try.f167 [] = true := by kernel_rfl
theorem ok_168 : okFn Try.f168 [] = true := by kernel_rfl
theorem ok_169 : okFn Try.f169 [] = true := by kernel_rfl
theorem ok_170 : okFn Try.f170 [] = true := by kernel_rfl
theorem ok_171 : okFn Try.f171 [] = true := by kernel_rfl
theorem ok_172 : okFn Try.f172 [] = true := by kernel_rfl
theorem ok_173 : okFn Try.f173 [] = true := by kernel_rfl
theorem ok_174 : okFn Try.f174 [] = true := by kernel_rfl
theorem ok_175 : okFn Try.f175 [] = true := by kernel_rfl
theorem ok_176 : okFn Try.f176 [] = true := by kernel_rfl
theorem ok_177 : okFn Try.f177 [] = true := by kernel_rfl
theorem ok_178 : okFn Try.f178 [] = true := by kernel_rfl
theorem ok_179 : okFn Try.f179 [] = true := by kernel_rfl
theorem ok_180 : okFn Try.f180 [] = true := by kernel_rfl
instance : Siz Try.prog 2 1 := ⟨Try.sizeOf2⟩
instance : One Try.prog 2 := ⟨Try.isAgg2⟩
instance : Elt Try.prog 2 1 8 := Elt.of (z := (.int .i64 0)) (by kernel_rfl) (by kernel_rfl)
instance : Zer Try.prog 2 (.int .i64 0) := ⟨Try.zeroValue2⟩
instance : IntT Try.prog 2 .i64 := ⟨Try.underlying2⟩
instance : Siz Try.prog 3 1 := ⟨Try.sizeOf3⟩
instance : One Try.prog 3 := ⟨Try.isAgg3⟩
instance : Elt Try.prog 3 1 8 := Elt.of (z := (.int .i64 0)) (by kernel_rfl) (by kernel_rfl)
instance : Zer Try.prog 3 (.int .i64 0) := ⟨Try.zeroValue3⟩
instance : IntT Try.prog 3 .i64 := ⟨Try.underlying3⟩
instance : Siz Try.prog 4 1 := ⟨Try.sizeOf4⟩
instance : One Try.prog 4 := ⟨Try.isAgg4⟩
instance : Elt Try.prog 4 1 1 := Elt.of (z := (.bool false)) (by kernel_rfl) (by kernel_rfl)
instance : Zer Try.prog 4 (.bool false) := ⟨Try.zeroValue4⟩
instance : Siz Try.prog 5 1 := ⟨Try.sizeOf5⟩
instance : One Try.prog 5 := ⟨Try.isAgg5⟩
instance : Elt Try.prog 5 1 1 := Elt.of (z := (.int .u8 0)) (by kernel_rfl) (by kernel_rfl)
instance : Zer Try.prog 5 (.int .u8 0) := ⟨Try.zeroValue5⟩
instance : IntT Try.prog 5 .u8 := ⟨Try.underlying5⟩
instance : Siz Try.prog 9 1 := ⟨Try.sizeOf9⟩
instance : One Try.prog 9 := ⟨Try.isAgg9⟩
instance : Elt Try.prog 9 1 16 := Elt.of (z := (.string ⟨#[]⟩)) (by kernel_rfl) (by kernel_rfl)
instance : Zer Try.prog 9 (.string ⟨#[]⟩) := ⟨Try.zeroValue9⟩
instance : Siz Try.prog 12 1 := ⟨Try.sizeOf12⟩
instance : One Try.prog 12 := ⟨Try.isAgg12⟩
instance : Elt Try.prog 12 1 8 := Elt.of (z := (.int .u64 0)) (by kernel_rfl) (by kernel_rfl)
instance : Zer Try.prog 12 (.int .u64 0) := ⟨Try.zeroValue12⟩
instance : IntT Try.prog 12 .u64 := ⟨Try.underlying12⟩
instance : Siz Try.prog 15 1 := ⟨Try.sizeOf15⟩
instance : One Try.prog 15 := ⟨Try.isAgg15⟩
instance : Elt Try.prog 15 1 8 := Elt.of (z := (.pointer none)) (by kernel_rfl) (by kernel_rfl)
instance : Zer Try.prog 15 (.pointer none) := ⟨Try.zeroValue15⟩
instance : Ptr Try.prog 15 213 := ⟨Try.underlying15⟩
instance : Siz Try.prog 16 1 := ⟨Try.sizeOf16⟩
instance : One Try.prog 16 := ⟨Try.isAgg16⟩
instance : Elt Try.prog 16 1 8 := Elt.of (z := (.pointer none)) (by kernel_rfl) (by kernel_rfl)
instance : Zer Try.prog 16 (.pointer none) := ⟨Try.zeroValue16⟩
instance : Ptr Try.prog 16 216 := ⟨Try.underlying16⟩
instance : Siz Try.prog 17 1 := ⟨Try.sizeOf17⟩
instance : One Try.prog 17 := ⟨Try.isAgg17⟩
instance : Elt Try.prog 17 1 8 := Elt.of (z := (.pointer none)) (by kernel_rfl) (by kernel_rfl)
instance : Zer Try.prog 17 (.pointer none) := ⟨Try.zeroValue17⟩
instance : Ptr Try.prog 17 224 := ⟨Try.underlying17⟩
instance : Siz Try.prog 21 1 := ⟨Try.sizeOf21⟩
instance : One Try.prog 21 := ⟨Try.isAgg21⟩
instance : Elt Try.prog 21 1 4 := Elt.of (z := (.int .i32 0)) (by kernel_rfl) (by kernel_rfl)
instance : Zer Try.prog 21 (.int .i32 0) := ⟨Try.zeroValue21⟩
instance : IntT Try.prog 21 .i32 := ⟨Try.underlying21⟩
instance : Siz Try.prog 22 1 := ⟨Try.sizeOf22⟩
instance : One Try.prog 22 := ⟨Try.isAgg22⟩
instance : Elt Try.prog 22 1 8 := Elt.of (z := (.int .u64 0)) (by kernel_rfl) (by kernel_rfl)
instance : Zer Try.prog 22 (.int .u64 0) := ⟨Try.zeroValue22⟩
instance : IntT Try.prog 22 .u64 := ⟨Try.underlying22⟩
instance : Siz Try.prog 23 1 := ⟨Try.sizeOf23⟩
instance : One Try.prog 23 := ⟨Try.isAgg23⟩
instance : Elt Try.prog 23 1 24 := Elt.of (z := (.slice none 0 0)) (by kernel_rfl) (by kernel_rfl)
instance : Zer Try.prog 23 (.slice none 0 0) := ⟨Try.zeroValue23⟩
instance : Sl Try.prog 23 3 1 := ⟨Try.underlying23, Try.sizeOf3⟩
instance : Siz Try.prog 25 1 := ⟨Try.sizeOf25⟩
instance : One Try.prog 25 := ⟨Try.isAgg25⟩
instance : Elt Try.prog 25 1 8 := Elt.of (z := (.pointer none)) (by kernel_rfl) (by kernel_rfl)
instance : Zer Try.prog 25 (.pointer none) := ⟨Try.zeroValue25⟩
instance : Ptr Try.prog 25 90 := ⟨Try.underlying25⟩
instance : Siz Try.prog 26 1 := ⟨Try.sizeOf26⟩
instance : One Try.prog 26 := ⟨Try.isAgg26⟩
instance : Elt Try.prog 26 1 8 := Elt.of (z := (.int .i64 0)) (by kernel_rfl) (by kernel_rfl)
instance : Zer Try.prog 26 (.int .i64 0) := ⟨Try.zeroValue26⟩
instance : IntT Try.prog 26 .i64 := ⟨Try.underlying26⟩
instance : Siz Try.prog 31 1 := ⟨Try.sizeOf31⟩
instance : One Try.prog 31 := ⟨Try.isAgg31⟩
instance : Elt Try.prog 31 1 8 := Elt.of (z := (.int .u64 0)) (by kernel_rfl) (by kernel_rfl)
instance : Zer Try.prog 31 (.int .u64 0) := ⟨Try.zeroValue31⟩
instance : IntT Try.prog 31 .u64 := ⟨Try.underlying31⟩
instance : Siz Try.prog 33 2 := ⟨Try.sizeOf33⟩
instance : Agg Try.prog 33 2 := ⟨Try.isAgg33⟩
instance : Elt Try.prog 33 2 16 := Elt.of (z := (.agg #[.int .u64 0, .int .u64 0])) (by kernel_rfl) (by kernel_rfl)
instance : Fld Try.prog 33 0 0 := ⟨fun _ _ _ => by kernel_rfl⟩
instance : Fld Try.prog 33 1 1 := ⟨fun _ _ _ => by kernel_rfl⟩
instance : Zer Try.prog 33 (.agg #[.int .u64 0, .int .u64 0]) := ⟨Try.zeroValue33⟩
instance : Siz Try.prog 35 3 := ⟨Try.sizeOf35⟩
instance : Agg Try.prog 35 3 := ⟨Try.isAgg35⟩
instance : Elt Try.prog 35 3 24 := Elt.of (z := (.agg #[.int .u64 0, .int .u64 0, .int .i64 0])) (by kernel_rfl) (by kernel_rfl)
instance : Fld Try.prog 35 0 0 := ⟨fun _ _ _ => by kernel_rfl⟩
instance : Fld Try.prog 35 1 2 := ⟨fun _ _ _ => by kernel_rfl⟩
instance : Zer Try.prog 35 (.agg #[.int .u64 0, .int .u64 0, .int .i64 0]) := ⟨Try.zeroValue35⟩
instance : Siz Try.prog 42 1 := ⟨Try.sizeOf42⟩
instance : One Try.prog 42 := ⟨Try.isAgg42⟩
instance : Elt Try.prog 42 1 24 := Elt.of (z := (.slice none 0 0)) (by kernel_rfl) (by kernel_rfl)
instance : Zer Try.prog 42 (.slice none 0 0) := ⟨Try.zeroValue42⟩
instance : Sl Try.prog 42 45 4 := ⟨Try.underlying42, Try.sizeOf45⟩
instance : Siz Try.prog 45 4 := ⟨Try.sizeOf45⟩
instance : Agg Try.prog 45 4 := ⟨Try.isAgg45⟩
instance : Elt Try.prog 45 4 32 := Elt.of (z := (.agg #[.int .u64 0, .int .u64 0, .int .i64 0, .int .i64 0])) (by kernel_rfl) (by kernel_rfl)
instance : Fld Try.prog 45 0 0 := ⟨fun _ _ _ => by kernel_rfl⟩
instance : Fld Try.prog 45 1 3 := ⟨fun _ _ _ => by kernel_rfl⟩
instance : Zer Try.prog 45 (.agg #[.int .u64 0, .int .u64 0, .int .i64 0, .int .i64 0]) := ⟨Try.zeroValue45⟩
instance : Siz Try.prog 56 1 := ⟨Try.sizeOf56⟩
instance : One Try.prog 56 := ⟨Try.isAgg56⟩
instance : Elt Try.prog 56 1 24 := Elt.of (z := (.slice none 0 0)) (by kernel_rfl) (by kernel_rfl)
instance : Zer Try.prog 56 (.slice none 0 0) := ⟨Try.zeroValue56⟩
instance : Sl Try.prog 56 61 5 := ⟨Try.underlying56, Try.sizeOf61⟩
instance : Siz Try.prog 57 1 := ⟨Try.sizeOf57⟩
instance : One Try.prog 57 := ⟨Try.isAgg57⟩
instance : Elt Try.prog 57 1 8 := Elt.of (z := (.pointer none)) (by kernel_rfl) (by kernel_rfl)
instance : Zer Try.prog 57 (.pointer none) := ⟨Try.zeroValue57⟩
instance : Ptr Try.prog 57 116 := ⟨Try.underlying57⟩
instance : Siz Try.prog 61 5 := ⟨Try.sizeOf61⟩
instance : Agg Try.prog 61 5 := ⟨Try.isAgg61⟩
instance : Elt Try.prog 61 5 40 := Elt.of (z := (.agg #[.int .i64 0, .int .i64 0, .int .u64 0, .int .u64 0, .int .i64 0])) (by kernel_rfl) (by kernel_rfl)
instance : Fld Try.prog 61 0 0 := ⟨fun _ _ _ => by kernel_rfl⟩
instance : Fld Try.prog 61 1 1 := ⟨fun _ _ _ => by kernel_rfl⟩
instance : Fld Try.prog 61 2 2 := ⟨fun _ _ _ => by kernel_rfl⟩
instance : Zer Try.prog 61 (.agg #[.int .i64 0, .int .i64 0, .int .u64 0, .int .u64 0, .int .i64 0]) := ⟨Try.zeroValue61⟩
instance : Siz Try.prog 69 1 := ⟨Try.sizeOf69⟩
instance : One Try.prog 69 := ⟨Try.isAgg69⟩
instance : Elt Try.prog 69 1 24 := Elt.of (z := (.slice none 0 0)) (by kernel_rfl) (by kernel_rfl)
instance : Zer Try.prog 69 (.slice none 0 0) := ⟨Try.zeroValue69⟩
instance : Sl Try.prog 69 77 5 := ⟨Try.underlying69, Try.sizeOf77⟩
instance : Siz Try.prog 71 1 := ⟨Try.sizeOf71⟩
instance : One Try.prog 71 := ⟨Try.isAgg71⟩
instance : Elt Try.prog 71 1 24 := Elt.of (z := (.slice none 0 0)) (by kernel_rfl) (by kernel_rfl)
instance : Zer Try.prog 71 (.slice none 0 0) := ⟨Try.zeroValue71⟩
instance : Sl Try.prog 71 84 5 := ⟨Try.underlying71, Try.sizeOf84⟩
instance : Siz Try.prog 77 5 := ⟨Try.sizeOf77⟩
instance : Agg Try.prog 77 5 := ⟨Try.isAgg77⟩
instance : Elt Try.prog 77 5 40 := Elt.of (z := (.agg #[.int .u64 0, .int .u64 0, .int .i64 0, .int .i64 0, .int .i64 0])) (by kernel_rfl) (by kernel_rfl)
instance : Fld Try.prog 77 0 0 := ⟨fun _ _ _ => by kernel_rfl⟩
instance : Fld Try.prog 77 1 3 := ⟨fun _ _ _ => by kernel_rfl⟩
instance : Fld Try.prog 77 2 4 := ⟨fun _ _ _ => by kernel_rfl⟩
instance : Zer Try.prog 77 (.agg #[.int .u64 0, .int .u64 0, .int .i64 0, .int .i64 0, .int .i64 0]) := ⟨Try.zeroValue77⟩
instance : Siz Try.prog 80 1 := ⟨Try.sizeOf80⟩
instance : One Try.prog 80 := ⟨Try.isAgg80⟩
instance : Elt Try.prog 80 1 8 := Elt.of (z := (.pointer none)) (by kernel_rfl) (by kernel_rfl)
instance : Zer Try.prog 80 (.pointer none) := ⟨Try.zeroValue80⟩
instance : Ptr Try.prog 80 132 := ⟨Try.underlying80⟩
instance : Siz Try.prog 84 5 := ⟨Try.sizeOf84⟩
instance : Agg Try.prog 84 5 := ⟨Try.isAgg84⟩
instance : Elt Try.prog 84 5 40 := Elt.of (z := (.agg #[.int .u64 0, .int .u64 0, .int .i64 0, .int .i64 0, .int .i64 0])) (by kernel_rfl) (by kernel_rfl)
instance : Fld Try.prog 84 0 0 := ⟨fun _ _ _ => by kernel_rfl⟩
instance : Fld Try.prog 84 1 3 := ⟨fun _ _ _ => by kernel_rfl⟩
instance : Fld Try.prog 84 2 4 := ⟨fun _ _ _ => by kernel_rfl⟩
instance : Zer Try.prog 84 (.agg #[.int .u64 0, .int .u64 0, .int .i64 0, .int .i64 0, .int .i64 0]) := ⟨Try.zeroValue84⟩
instance : Siz Try.prog 88 1 := ⟨Try.sizeOf88⟩
instance : One Try.prog 88 := ⟨Try.isAgg88⟩
instance : Elt Try.prog 88 1 24 := Elt.of (z := (.slice none 0 0)) (by kernel_rfl) (by kernel_rfl)
instance : Zer Try.prog 88 (.slice none 0 0) := ⟨Try.zeroValue88⟩
instance : Sl Try.prog 88 98 20 := ⟨Try.underlying88, Try.sizeOf98⟩
instance : Siz Try.prog 90 3 := ⟨Try.sizeOf90⟩
instance : Agg Try.prog 90 3 := ⟨Try.isAgg90⟩
instance : Elt Try.prog 90 3 56 := Elt.of (z := (.agg #[.int .u64 0, .slice none 0 0, .slice none 0 0])) (by kernel_rfl) (by kernel_rfl)
instance : Fld Try.prog 90 0 0 := ⟨fun _ _ _ => by kernel_rfl⟩
instance : Fld Try.prog 90 1 1 := ⟨fun _ _ _ => by kernel_rfl⟩
instance : Fld Try.prog 90 2 2 := ⟨fun _ _ _ => by kernel_rfl⟩
instance : Zer Try.prog 90 (.agg #[.int .u64 0, .slice none 0 0, .slice none 0 0]) := ⟨Try.zeroValue90⟩
instance : Siz Try.prog 95 5 := ⟨Try.sizeOf95⟩
instance : Agg Try.prog 95 5 := ⟨Try.isAgg95⟩
instance : Elt Try.prog 95 5 40 := Elt.of (z := (.agg #[.bool false, .int .u64 0, .int .u64 0, .int .i64 0, .int .i64 0])) (by kernel_rfl) (by kernel_rfl)
instance : Fld Try.prog 95 0 0 := ⟨fun _ _ _ => by kernel_rfl⟩
instance : Fld Try.prog 95 1 1 := ⟨fun _ _ _ => by kernel_rfl⟩
instance : Zer Try.prog 95 (.agg #[.bool false, .int .u64 0, .int .u64 0, .int .i64 0, .int .i64 0]) := ⟨Try.zeroValue95⟩
instance : Siz Try.prog 96 20 := ⟨Try.sizeOf96⟩
instance : Agg Try.prog 96 20 := ⟨Try.isAgg96⟩
instance : Zer Try.prog 96 (.agg #[.bool false, .int .u64 0, .int .u64 0, .int .i64 0, .int .i64 0, .bool false, .int .u64 0, .int .u64 0, .int .i64 0, .int .i64 0, .bool false, .int .u64 0, .int .u64 0, .int .i64 0, .int .i64 0, .bool false, .int .u64 0, .int .u64 0, .int .i64 0, .int .i64 0]) := ⟨Try.zeroValue96⟩
instance : Arr Try.prog 96 95 4 5 := ⟨Try.underlying96, Try.sizeOf95⟩
instance : Siz Try.prog 98 20 := ⟨Try.sizeOf98⟩
instance : Agg Try.prog 98 20 := ⟨Try.isAgg98⟩
instance : Elt Try.prog 98 20 160 := Elt.of (z := (.agg #[.bool false, .int .u64 0, .int .u64 0, .int .i64 0, .int .i64 0, .bool false, .int .u64 0, .int .u64 0, .int .i64 0, .int .i64 0, .bool false, .int .u64 0, .int .u64 0, .int .i64 0, .int .i64 0, .bool false, .int .u64 0, .int .u64 0, .int .i64 0, .int .i64 0])) (by kernel_rfl) (by kernel_rfl)
instance : Fld Try.prog 98 0 0 := ⟨fun _ _ _ => by kernel_rfl⟩
instance : Zer Try.prog 98 (.agg #[.bool false, .int .u64 0, .int .u64 0, .int .i64 0, .int .i64 0, .bool false, .int .u64 0, .int .u64 0, .int .i64 0, .int .i64 0, .bool false, .int .u64 0, .int .u64 0, .int .i64 0, .int .i64 0, .bool false, .int .u64 0, .int .u64 0, .int .i64 0, .int .i64 0]) := ⟨Try.zeroValue98⟩
instance : Siz Try.prog 104 1 := ⟨Try.sizeOf104⟩
instance : One Try.prog 104 := ⟨Try.isAgg104⟩
instance : Elt Try.prog 104 1 8 := Elt.of (z := (.pointer none)) (by kernel_rfl) (by kernel_rfl)
instance : Zer Try.prog 104 (.pointer none) := ⟨Try.zeroValue104⟩
instance : Ptr Try.prog 104 143 := ⟨Try.underlying104⟩
instance : Siz Try.prog 106 1 := ⟨Try.sizeOf106⟩
instance : One Try.prog 106 := ⟨Try.isAgg106⟩
instance : Elt Try.prog 106 1 24 := Elt.of (z := (.slice none 0 0)) (by kernel_rfl) (by kernel_rfl)
instance : Zer Try.prog 106 (.slice none 0 0) := ⟨Try.zeroValue106⟩
instance : Sl Try.prog 106 35 3 := ⟨Try.underlying106, Try.sizeOf35⟩
instance : Siz Try.prog 114 1 := ⟨Try.sizeOf114⟩
instance : One Try.prog 114 := ⟨Try.isAgg114⟩
instance : Elt Try.prog 114 1 24 := Elt.of (z := (.slice none 0 0)) (by kernel_rfl) (by kernel_rfl)
instance : Zer Try.prog 114 (.slice none 0 0) := ⟨Try.zeroValue114⟩
instance : Sl Try.prog 114 121 20 := ⟨Try.underlying114, Try.sizeOf121⟩
instance : Siz Try.prog 116 3 := ⟨Try.sizeOf116⟩
instance : Agg Try.prog 116 3 := ⟨Try.isAgg116⟩
instance : Elt Try.prog 116 3 56 := Elt.of (z := (.agg #[.int .u64 0, .slice none 0 0, .slice none 0 0])) (by kernel_rfl) (by kernel_rfl)
instance : Fld Try.prog 116 0 0 := ⟨fun _ _ _ => by kernel_rfl⟩
instance : Fld Try.prog 116 1 1 := ⟨fun _ _ _ => by kernel_rfl⟩
instance : Fld Try.prog 116 2 2 := ⟨fun _ _ _ => by kernel_rfl⟩
instance : Zer Try.prog 116 (.agg #[.int .u64 0, .slice none 0 0, .slice none 0 0]) := ⟨Try.zeroValue116⟩
instance : Siz Try.prog 118 16 := ⟨Try.sizeOf118⟩
instance : Agg Try.prog 118 16 := ⟨Try.isAgg118⟩
instance : Zer Try.prog 118 (.agg #[.int .u64 0, .int .u64 0, .int .i64 0, .int .i64 0, .int .u64 0, .int .u64 0, .int .i64 0, .int .i64 0, .int .u64 0, .int .u64 0, .int .i64 0, .int .i64 0, .int .u64 0, .int .u64 0, .int .i64 0, .int .i64 0]) := ⟨Try.zeroValue118⟩
instance : Arr Try.prog 118 45 4 4 := ⟨Try.underlying118, Try.sizeOf45⟩
instance : Siz Try.prog 119 4 := ⟨Try.sizeOf119⟩
instance : Agg Try.prog 119 4 := ⟨Try.isAgg119⟩
instance : Zer Try.prog 119 (.agg #[.bool false, .bool false, .bool false, .bool false]) := ⟨Try.zeroValue119⟩
instance : Arr Try.prog 119 4 4 1 := ⟨Try.underlying119, Try.sizeOf4⟩
instance : Siz Try.prog 121 20 := ⟨Try.sizeOf121⟩
instance : Agg Try.prog 121 20 := ⟨Try.isAgg121⟩
instance : Elt Try.prog 121 20 136 := Elt.of (z := (.agg #[.int .u64 0, .int .u64 0, .int .i64 0, .int .i64 0, .int .u64 0, .int .u64 0, .int .i64 0, .int .i64 0, .int .u64 0, .int .u64 0, .int .i64 0, .int .i64 0, .int .u64 0, .int .u64 0, .int .i64 0, .int .i64 0, .bool false, .bool false, .bool false, .bool false])) (by kernel_rfl) (by kernel_rfl)
instance : Fld Try.prog 121 0 0 := ⟨fun _ _ _ => by kernel_rfl⟩
instance : Fld Try.prog 121 1 16 := ⟨fun _ _ _ => by kernel_rfl⟩
instance : Zer Try.prog 121 (.agg #[.int .u64 0, .int .u64 0, .int .i64 0, .int .i64 0, .int .u64 0, .int .u64 0, .int .i64 0, .int .i64 0, .int .u64 0, .int .u64 0, .int .i64 0, .int .i64 0, .int .u64 0, .int .u64 0, .int .i64 0, .int .i64 0, .bool false, .bool false, .bool false, .bool false]) := ⟨Try.zeroValue121⟩
instance : Siz Try.prog 127 1 := ⟨Try.sizeOf127⟩
instance : One Try.prog 127 := ⟨Try.isAgg127⟩
instance : Elt Try.prog 127 1 8 := Elt.of (z := (.pointer none)) (by kernel_rfl) (by kernel_rfl)
instance : Zer Try.prog 127 (.pointer none) := ⟨Try.zeroValue127⟩
instance : Ptr Try.prog 127 167 := ⟨Try.underlying127⟩
instance : Siz Try.prog 132 3 := ⟨Try.sizeOf132⟩
instance : Agg Try.prog 132 3 := ⟨Try.isAgg132⟩
instance : Elt Try.prog 132 3 24 := Elt.of (z := (.agg #[.int .i64 0, .pointer none, .pointer none])) (by kernel_rfl) (by kernel_rfl)
instance : Fld Try.prog 132 0 0 := ⟨fun _ _ _ => by kernel_rfl⟩
instance : Fld Try.prog 132 1 1 := ⟨fun _ _ _ => by kernel_rfl⟩
instance : Fld Try.prog 132 2 2 := ⟨fun _ _ _ => by kernel_rfl⟩
instance : Zer Try.prog 132 (.agg #[.int .i64 0, .pointer none, .pointer none]) := ⟨Try.zeroValue132⟩
instance : Siz Try.prog 134 1 := ⟨Try.sizeOf134⟩
instance : One Try.prog 134 := ⟨Try.isAgg134⟩
instance : Elt Try.prog 134 1 8 := Elt.of (z := (.pointer none)) (by kernel_rfl) (by kernel_rfl)
instance : Zer Try.prog 134 (.pointer none) := ⟨Try.zeroValue134⟩
instance : Ptr Try.prog 134 98 := ⟨Try.underlying134⟩
instance : Siz Try.prog 138 1 := ⟨Try.sizeOf138⟩
instance : One Try.prog 138 := ⟨Try.isAgg138⟩
instance : Elt Try.prog 138 1 8 := Elt.of (z := (.pointer none)) (by kernel_rfl) (by kernel_rfl)
instance : Zer Try.prog 138 (.pointer none) := ⟨Try.zeroValue138⟩
instance : Ptr Try.prog 138 141 := ⟨Try.underlying138⟩
instance : Siz Try.prog 139 2 := ⟨Try.sizeOf139⟩
instance : Agg Try.prog 139 2 := ⟨Try.isAgg139⟩
instance : Zer Try.prog 139 (.agg #[.pointer none, .pointer none]) := ⟨Try.zeroValue139⟩
instance : Arr Try.prog 139 138 2 1 := ⟨Try.underlying139, Try.sizeOf138⟩
instance : Siz Try.prog 141 4 := ⟨Try.sizeOf141⟩
instance : Agg Try.prog 141 4 := ⟨Try.isAgg141⟩
instance : Elt Try.prog 141 4 32 := Elt.of (z := (.agg #[.bool false, .int .i64 0, .pointer none, .pointer none])) (by kernel_rfl) (by kernel_rfl)
instance : Fld Try.prog 141 0 0 := ⟨fun _ _ _ => by kernel_rfl⟩
instance : Fld Try.prog 141 1 1 := ⟨fun _ _ _ => by kernel_rfl⟩
instance : Fld Try.prog 141 2 2 := ⟨fun _ _ _ => by kernel_rfl⟩
instance : Zer Try.prog 141 (.agg #[.bool false, .int .i64 0, .pointer none, .pointer none]) := ⟨Try.zeroValue141⟩
instance : Siz Try.prog 143 5 := ⟨Try.sizeOf143⟩
instance : Agg Try.prog 143 5 := ⟨Try.isAgg143⟩
instance : Elt Try.prog 143 5 40 := Elt.of (z := (.agg #[.bool false, .int .i64 0, .pointer none, .pointer none, .int .i64 0])) (by kernel_rfl) (by kernel_rfl)
instance : Fld Try.prog 143 0 0 := ⟨fun _ _ _ => by kernel_rfl⟩
instance : Fld Try.prog 143 1 4 := ⟨fun _ _ _ => by kernel_rfl⟩
instance : Zer Try.prog 143 (.agg #[.bool false, .int .i64 0, .pointer none, .pointer none, .int .i64 0]) := ⟨Try.zeroValue143⟩
instance : Siz Try.prog 156 1 := ⟨Try.sizeOf156⟩
instance : One Try.prog 156 := ⟨Try.isAgg156⟩
instance : Elt Try.prog 156 1 8 := Elt.of (z := (.pointer none)) (by kernel_rfl) (by kernel_rfl)
instance : Zer Try.prog 156 (.pointer none) := ⟨Try.zeroValue156⟩
instance : Ptr Try.prog 156 121 := ⟨Try.underlying156⟩
instance : Siz Try.prog 162 1 := ⟨Try.sizeOf162⟩
instance : One Try.prog 162 := ⟨Try.isAgg162⟩
instance : Elt Try.prog 162 1 8 := Elt.of (z := (.pointer none)) (by kernel_rfl) (by kernel_rfl)
instance : Zer Try.prog 162 (.pointer none) := ⟨Try.zeroValue162⟩
instance : Ptr Try.prog 162 191 := ⟨Try.underlying162⟩
instance : Siz Try.prog 164 1 := ⟨Try.sizeOf164⟩
instance : One Try.prog 164 := ⟨Try.isAgg164⟩
instance : Elt Try.prog 164 1 8 := Elt.of (z := (.pointer none)) (by kernel_rfl) (by kernel_rfl)
instance : Zer Try.prog 164 (.pointer none) := ⟨Try.zeroValue164⟩
instance : Ptr Try.prog 164 193 := ⟨Try.underlying164⟩
instance : Siz Try.prog 167 4 := ⟨Try.sizeOf167⟩
instance : Agg Try.prog 167 4 := ⟨Try.isAgg167⟩
instance : Elt Try.prog 167 4 32 := Elt.of (z := (.agg #[.int .u64 0, .int .i64 0, .pointer none, .pointer none])) (by kernel_rfl) (by kernel_rfl)
instance : Fld Try.prog 167 0 0 := ⟨fun _ _ _ => by kernel_rfl⟩
instance : Fld Try.prog 167 1 1 := ⟨fun _ _ _ => by kernel_rfl⟩
instance : Fld Try.prog 167 2 2 := ⟨fun _ _ _ => by kernel_rfl⟩
instance : Fld Try.prog 167 3 3 := ⟨fun _ _ _ => by kernel_rfl⟩
instance : Zer Try.prog 167 (.agg #[.int .u64 0, .int .i64 0, .pointer none, .pointer none]) := ⟨Try.zeroValue167⟩
instance : Siz Try.prog 180 1 := ⟨Try.sizeOf180⟩
instance : One Try.prog 180 := ⟨Try.isAgg180⟩
instance : Elt Try.prog 180 1 4 := Elt.of (z := (.int .u32 0)) (by kernel_rfl) (by kernel_rfl)
instance : Zer Try.prog 180 (.int .u32 0) := ⟨Try.zeroValue180⟩
instance : IntT Try.prog 180 .u32 := ⟨Try.underlying180⟩
instance : Siz Try.prog 189 1 := ⟨Try.sizeOf189⟩
instance : One Try.prog 189 := ⟨Try.isAgg189⟩
instance : Elt Try.prog 189 1 24 := Elt.of (z := (.slice none 0 0)) (by kernel_rfl) (by kernel_rfl)
instance : Zer Try.prog 189 (.slice none 0 0) := ⟨Try.zeroValue189⟩
instance : Sl Try.prog 189 22 1 := ⟨Try.underlying189, Try.sizeOf22⟩
instance : Siz Try.prog 191 2 := ⟨Try.sizeOf191⟩
instance : Agg Try.prog 191 2 := ⟨Try.isAgg191⟩
instance : Elt Try.prog 191 2 32 := Elt.of (z := (.agg #[.slice none 0 0, .int .i64 0])) (by kernel_rfl) (by kernel_rfl)
instance : Fld Try.prog 191 0 0 := ⟨fun _ _ _ => by kernel_rfl⟩
instance : Fld Try.prog 191 1 1 := ⟨fun _ _ _ => by kernel_rfl⟩
instance : Zer Try.prog 191 (.agg #[.slice none 0 0, .int .i64 0]) := ⟨Try.zeroValue191⟩
instance : Siz Try.prog 193 2 := ⟨Try.sizeOf193⟩
instance : Agg Try.prog 193 2 := ⟨Try.isAgg193⟩
instance : Elt Try.prog 193 2 32 := Elt.of (z := (.agg #[.slice none 0 0, .int .i64 0])) (by kernel_rfl) (by kernel_rfl)
instance : Fld Try.prog 193 0 0 := ⟨fun _ _ _ => by kernel_rfl⟩
instance : Fld Try.prog 193 1 1 := ⟨fun _ _ _ => by kernel_rfl⟩
instance : Zer Try.prog 193 (.agg #[.slice none 0 0, .int .i64 0]) := ⟨Try.zeroValue193⟩
instance : Siz Try.prog 199 1 := ⟨Try.sizeOf199⟩
instance : One Try.prog 199 := ⟨Try.isAgg199⟩
instance : Elt Try.prog 199 1 8 := Elt.of (z := (.pointer none)) (by kernel_rfl) (by kernel_rfl)
instance : Zer Try.prog 199 (.pointer none) := ⟨Try.zeroValue199⟩
instance : Ptr Try.prog 199 138 := ⟨Try.underlying199⟩
instance : Siz Try.prog 204 1 := ⟨Try.sizeOf204⟩
instance : One Try.prog 204 := ⟨Try.isAgg204⟩
instance : Elt Try.prog 204 1 8 := Elt.of (z := (.pointer none)) (by kernel_rfl) (by kernel_rfl)
instance : Zer Try.prog 204 (.pointer none) := ⟨Try.zeroValue204⟩
instance : Ptr Try.prog 204 3 := ⟨Try.underlying204⟩
instance : Siz Try.prog 208 1 := ⟨Try.sizeOf208⟩
instance : One Try.prog 208 := ⟨Try.isAgg208⟩
instance : Elt Try.prog 208 1 8 := Elt.of (z := (.pointer none)) (by kernel_rfl) (by kernel_rfl)
instance : Zer Try.prog 208 (.pointer none) := ⟨Try.zeroValue208⟩
instance : Ptr Try.prog 208 200 := ⟨Try.underlying208⟩
instance : Siz Try.prog 214 0 := ⟨Try.sizeOf214⟩
instance : Agg Try.prog 214 0 := ⟨Try.isAgg214⟩
instance : Zer Try.prog 214 (.agg #[]) := ⟨Try.zeroValue214⟩
instance : Arr Try.prog 214 16 0 1 := ⟨Try.underlying214, Try.sizeOf16⟩
instance : Siz Try.prog 220 1 := ⟨Try.sizeOf220⟩
instance : One Try.prog 220 := ⟨Try.isAgg220⟩
instance : Elt Try.prog 220 1 8 := Elt.of (z := (.pointer none)) (by kernel_rfl) (by kernel_rfl)
instance : Zer Try.prog 220 (.pointer none) := ⟨Try.zeroValue220⟩
instance : Ptr Try.prog 220 5 := ⟨Try.underlying220⟩
instance : Siz Try.prog 225 1 := ⟨Try.sizeOf225⟩
instance : One Try.prog 225 := ⟨Try.isAgg225⟩
instance : Elt Try.prog 225 1 8 := Elt.of (z := (.pointer none)) (by kernel_rfl) (by kernel_rfl)
instance : Zer Try.prog 225 (.pointer none) := ⟨Try.zeroValue225⟩
end Go.Fl
