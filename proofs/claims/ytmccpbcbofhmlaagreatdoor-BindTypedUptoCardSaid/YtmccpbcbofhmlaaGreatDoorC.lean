import Derived.Test.YtmccpbcbofhmlaaGreatDoorProg
import Derived.Test.YtmccpbcbofhmlaaGreatDoorB
import Derived.Shelf.Strings.Builder1
import Derived.Shelf.Strings.Builder2
import Derived.Shelf.Small.Strs
import Derived.Shelf.Strconv.Itoa0
import Derived.Shelf.Strconv.Itoa1
import Derived.Shelf.LaysM
import Derived.Shelf.Strconv.Itoa2
import Derived.Shelf.Strconv.Itoa3
import Derived.Shelf.Strconv.Itoa4
import Derived.Shelf.Strconv.ParseIntEmpty
import Derived.Shelf.Strconv.Clone
import Derived.Shelf.Strconv.SyntaxError
import Derived.Shelf.LaysC
import Derived.Shelf.Strconv.ToError
import Derived.Shelf.Strconv.Lower
import Derived.Shelf.Strconv.ParseUint10
import Derived.Shelf.Strconv.ParseUint10Empty
import Derived.Shelf.Strconv.ParseUint10Any
import Derived.Shelf.Strconv.ParseInt10
import Derived.Shelf.Strconv.RangeError
import Derived.Shelf.Strconv.ToErrorRange
import Derived.Shelf.Strconv.ParseUintEmpty
import Derived.Shelf.Strconv.ParseUint10b64
import Derived.Shelf.Strconv.ParseUint10b32
import Derived.Shelf.Strconv.ParseUint10b16
import Derived.Shelf.Strconv.ParseUint10b8
import Derived.Shelf.Strconv.ParseUint10At
import Derived.Shelf.Strconv.ParseInt10At64
import Derived.Shelf.Strconv.ParseInt10At32
import Derived.Shelf.Strconv.ParseInt10At16
import Derived.Shelf.Strconv.ParseInt10At8
import Derived.Shelf.Strconv.ParseInt10All
import Derived.Shelf.Strconv.ParseIntPublic10
import Derived.Shelf.Strings.Search1
import Derived.Shelf.Strings.Search2
import Derived.Shelf.Strings.Search3
import Derived.Shelf.Strings.Count
import Derived.Shelf.Strings.Shaped
import Derived.Shelf.Strings.Prefix
import Derived.Shelf.Strings.Split
import Derived.Shelf.Strings.Fields
import Derived.Shelf.Strings.Replace
import Derived.Shelf.Unicode.Latin
import Derived.Shelf.Unicode.DecodeSlow
import Derived.Shelf.Unicode.Is16White
import Derived.Shelf.Unicode.IsSpaceAny
import Derived.Shelf.Unicode.Is16Any
import Derived.Shelf.Unicode.Is32Any
import Derived.Shelf.Unicode.ExclAny
import Derived.Lib.ParseIntB
set_option linter.all false
namespace Go.Proofs.YtmccpbcbofhmlaaGreatDoor
open Go Vc
theorem mx : Tryz.prog.follows .mixedOrders = true := by kernel_rfl
theorem bod10 : bodied Tryz.prog 10 = true := by kernel_rfl
theorem bod100 : bodied Tryz.prog 100 = true := by kernel_rfl
theorem bod101 : bodied Tryz.prog 101 = true := by kernel_rfl
theorem bod105 : bodied Tryz.prog 105 = true := by kernel_rfl
theorem bod106 : bodied Tryz.prog 106 = true := by kernel_rfl
theorem bod107 : bodied Tryz.prog 107 = true := by kernel_rfl
theorem bod108 : bodied Tryz.prog 108 = true := by kernel_rfl
theorem bod109 : bodied Tryz.prog 109 = true := by kernel_rfl
theorem bod110 : bodied Tryz.prog 110 = true := by kernel_rfl
theorem bod119 : bodied Tryz.prog 119 = true := by kernel_rfl
theorem bod120 : bodied Tryz.prog 120 = true := by kernel_rfl
theorem bod121 : bodied Tryz.prog 121 = true := by kernel_rfl
theorem bod122 : bodied Tryz.prog 122 = true := by kernel_rfl
theorem bod123 : bodied Tryz.prog 123 = true := by kernel_rfl
theorem bod124 : bodied Tryz.prog 124 = true := by kernel_rfl
theorem bod125 : bodied Tryz.prog 125 = true := by kernel_rfl
theorem bod126 : bodied Tryz.prog 126 = true := by kernel_rfl
theorem bod127 : bodied Tryz.prog 127 = true := by kernel_rfl
theorem bod128 : bodied Tryz.prog 128 = true := by kernel_rfl
theorem bod129 : bodied Tryz.prog 129 = true := by kernel_rfl
theorem bod138 : bodied Tryz.prog 138 = true := by kernel_rfl
theorem bod139 : bodied Tryz.prog 139 = true := by kernel_rfl
theorem bod140 : bodied Tryz.prog 140 = true := by kernel_rfl
theorem bod141 : bodied Tryz.prog 141 = true := by kernel_rfl
theorem bod142 : bodied Tryz.prog 142 = true := by kernel_rfl
theorem bod143 : bodied Tryz.prog 143 = true := by kernel_rfl
theorem bod144 : bodied Tryz.prog 144 = true := by kernel_rfl
theorem bod145 : bodied Tryz.prog 145 = true := by kernel_rfl
theorem bod146 : bodied Tryz.prog 146 = true := by kernel_rfl
theorem bod147 : bodied Tryz.prog 147 = true := by kernel_rfl
theorem bod148 : bodied Tryz.prog 148 = true := by kernel_rfl
theorem bod149 : bodied Tryz.prog 149 = true := by kernel_rfl
theorem bod150 : bodied Tryz.prog 150 = true := by kernel_rfl
theorem bod151 : bodied Tryz.prog 151 = true := by kernel_rfl
theorem bod152 : bodied Tryz.prog 152 = true := by kernel_rfl
theorem bod153 : bodied Tryz.prog 153 = true := by kernel_rfl
theorem bod16 : bodied Tryz.prog 16 = true := by kernel_rfl
theorem bod17 : bodied Tryz.prog 17 = true := by kernel_rfl
theorem bod170 : bodied Tryz.prog 170 = true := by kernel_rfl
theorem bod173 : bodied Tryz.prog 173 = true := by kernel_rfl
theorem bod174 : bodied Tryz.prog 174 = true := by kernel_rfl
theorem bod175 : bodied Tryz.prog 175 = true := by kernel_rfl
theorem bod176 : bodied Tryz.prog 176 = true := by kernel_rfl
theorem bod18 : bodied Tryz.prog 18 = true := by kernel_rfl
theorem bod180 : bodied Tryz.prog 180 = true := by kernel_rfl
theorem bod182 : bodied Tryz.prog 182 = true := by kernel_rfl
theorem bod183 : bodied Tryz.prog 183 = true := by kernel_rfl
theorem bod184 : bodied Tryz.prog 184 = true := by kernel_rfl
theorem bod185 : bodied Tryz.prog 185 = true := by kernel_rfl
theorem bod186 : bodied Tryz.prog 186 = true := by kernel_rfl
theorem bod187 : bodied Tryz.prog 187 = true := by kernel_rfl
theorem bod188 : bodied Tryz.prog 188 = true := by kernel_rfl
theorem bod189 : bodied Tryz.prog 189 = true := by kernel_rfl
theorem bod190 : bodied Tryz.prog 190 = true := by kernel_rfl
theorem bod191 : bodied Tryz.prog 191 = true := by kernel_rfl
theorem bod192 : bodied Tryz.prog 192 = true := by kernel_rfl
theorem bod193 : bodied Tryz.prog 193 = true := by kernel_rfl
theorem bod20 : bodied Tryz.prog 20 = true := by kernel_rfl
theorem bod22 : bodied Tryz.prog 22 = true := by kernel_rfl
theorem bod226 : bodied Tryz.prog 226 = true := by kernel_rfl
theorem bod227 : bodied Tryz.prog 227 = true := by kernel_rfl
theorem bod228 : bodied Tryz.prog 228 = true := by kernel_rfl
theorem bod229 : bodied Tryz.prog 229 = true := by kernel_rfl
theorem bod230 : bodied Tryz.prog 230 = true := by kernel_rfl
theorem bod231 : bodied Tryz.prog 231 = true := by kernel_rfl
theorem bod232 : bodied Tryz.prog 232 = true := by kernel_rfl
theorem bod233 : bodied Tryz.prog 233 = true := by kernel_rfl
theorem bod239 : bodied Tryz.prog 239 = true := by kernel_rfl
theorem bod25 : bodied Tryz.prog 25 = true := by kernel_rfl
theorem bod26 : bodied Tryz.prog 26 = true := by kernel_rfl
theorem bod27 : bodied Tryz.prog 27 = true := by kernel_rfl
theorem bod271 : bodied Tryz.prog 271 = true := by kernel_rfl
theorem bod272 : bodied Tryz.prog 272 = true := by kernel_rfl
theorem bod273 : bodied Tryz.prog 273 = true := by kernel_rfl
theorem bod274 : bodied Tryz.prog 274 = true := by kernel_rfl
theorem bod29 : bodied Tryz.prog 29 = true := by kernel_rfl
theorem bod30 : bodied Tryz.prog 30 = true := by kernel_rfl
theorem bod31 : bodied Tryz.prog 31 = true := by kernel_rfl
theorem bod37 : bodied Tryz.prog 37 = true := by kernel_rfl
theorem bod38 : bodied Tryz.prog 38 = true := by kernel_rfl
theorem bod39 : bodied Tryz.prog 39 = true := by kernel_rfl
theorem bod4 : bodied Tryz.prog 4 = true := by kernel_rfl
theorem bod40 : bodied Tryz.prog 40 = true := by kernel_rfl
theorem bod41 : bodied Tryz.prog 41 = true := by kernel_rfl
theorem bod42 : bodied Tryz.prog 42 = true := by kernel_rfl
theorem bod44 : bodied Tryz.prog 44 = true := by kernel_rfl
theorem bod47 : bodied Tryz.prog 47 = true := by kernel_rfl
theorem bod48 : bodied Tryz.prog 48 = true := by kernel_rfl
theorem bod49 : bodied Tryz.prog 49 = true := by kernel_rfl
theorem bod50 : bodied Tryz.prog 50 = true := by kernel_rfl
theorem bod51 : bodied Tryz.prog 51 = true := by kernel_rfl
theorem bod53 : bodied Tryz.prog 53 = true := by kernel_rfl
theorem bod54 : bodied Tryz.prog 54 = true := by kernel_rfl
theorem bod55 : bodied Tryz.prog 55 = true := by kernel_rfl
theorem bod58 : bodied Tryz.prog 58 = true := by kernel_rfl
theorem bod59 : bodied Tryz.prog 59 = true := by kernel_rfl
theorem bod60 : bodied Tryz.prog 60 = true := by kernel_rfl
theorem bod61 : bodied Tryz.prog 61 = true := by kernel_rfl
theorem bod62 : bodied Tryz.prog 62 = true := by kernel_rfl
theorem bod63 : bodied Tryz.prog 63 = true := by kernel_rfl
theorem bod64 : bodied Tryz.prog 64 = true := by kernel_rfl
theorem bod65 : bodied Tryz.prog 65 = true := by kernel_rfl
theorem bod66 : bodied Tryz.prog 66 = true := by kernel_rfl
theorem bod67 : bodied Tryz.prog 67 = true := by kernel_rfl
theorem bod68 : bodied Tryz.prog 68 = true := by kernel_rfl
theorem bod7 : bodied Tryz.prog 7 = true := by kernel_rfl
theorem bod76 : bodied Tryz.prog 76 = true := by kernel_rfl
theorem bod77 : bodied Tryz.prog 77 = true := by kernel_rfl
theorem bod78 : bodied Tryz.prog 78 = true := by kernel_rfl
theorem bod79 : bodied Tryz.prog 79 = true := by kernel_rfl
theorem bod8 : bodied Tryz.prog 8 = true := by kernel_rfl
theorem bod80 : bodied Tryz.prog 80 = true := by kernel_rfl
theorem bod81 : bodied Tryz.prog 81 = true := by kernel_rfl
theorem bod82 : bodied Tryz.prog 82 = true := by kernel_rfl
theorem bod83 : bodied Tryz.prog 83 = true := by kernel_rfl
theorem bod84 : bodied Tryz.prog 84 = true := by kernel_rfl
theorem bod85 : bodied Tryz.prog 85 = true := by kernel_rfl
theorem bod86 : bodied Tryz.prog 86 = true := by kernel_rfl
theorem bod87 : bodied Tryz.prog 87 = true := by kernel_rfl
theorem bod9 : bodied Tryz.prog 9 = true := by kernel_rfl
theorem bod93 : bodied Tryz.prog 93 = true := by kernel_rfl
theorem bod94 : bodied Tryz.prog 94 = true := by kernel_rfl
theorem bod95 : bodied Tryz.prog 95 = true := by kernel_rfl
theorem bod96 : bodied Tryz.prog 96 = true := by kernel_rfl
theorem bod97 : bodied Tryz.prog 97 = true := by kernel_rfl
theorem bod98 : bodied Tryz.prog 98 = true := by kernel_rfl
theorem bod99 : bodied Tryz.prog 99 = true := by kernel_rfl
theorem bt102 : bt Tryz.prog 102 = some ([(.slice none 0 0), (.slice none 0 0), (.pointer none), (.pointer none)], [(0, 1), (1, 1), (2, 1), (3, 1)]) := by kernel_rfl
theorem bt104 : bt Tryz.prog 104 = some ([(.string ⟨#[]⟩), (.string ⟨#[]⟩)], [(0, 1), (1, 1)]) := by kernel_rfl
theorem bt108 : bt Tryz.prog 108 = some ([(.int .i64 (0))], [(0, 1)]) := by kernel_rfl
theorem bt114 : bt Tryz.prog 114 = some ([(.slice none 0 0), (.bool false), (.slice none 0 0), (.slice none 0 0)], [(0, 1), (1, 1), (2, 1), (3, 1)]) := by kernel_rfl
theorem bt116 : bt Tryz.prog 116 = some ([(.string ⟨#[]⟩), (.string ⟨#[]⟩)], [(0, 1), (1, 1)]) := by kernel_rfl
theorem bt119 : bt Tryz.prog 119 = some ([(.int .i64 (0)), (.int .i64 (0)), (.int .i64 (0)), (.int .i64 (0)), (.string ⟨#[]⟩), (.int .i64 (0)), (.slice none 0 0)], [(0, 1), (1, 6)]) := by kernel_rfl
theorem bt127 : bt Tryz.prog 127 = some ([(.slice none 0 0), (.int .i64 (0))], [(0, 1), (1, 1)]) := by kernel_rfl
theorem bt138 : bt Tryz.prog 138 = some ([(.pointer none), (.slice none 0 0)], [(0, 2)]) := by kernel_rfl
theorem bt144 : bt Tryz.prog 144 = some ([(.int .i64 (0)), (.int .i64 (0))], [(0, 2)]) := by kernel_rfl
theorem bt149 : bt Tryz.prog 149 = some ([(.slice none 0 0), (.int .i64 (0)), (.int .i64 (0))], [(0, 1), (1, 1), (2, 1)]) := by kernel_rfl
theorem bt159 : bt Tryz.prog 159 = some ([(.slice none 0 0), (.int .i64 (0))], [(0, 1), (1, 1)]) := by kernel_rfl
theorem bt161 : bt Tryz.prog 161 = some ([(.int .i64 (0)), (.int .i64 (0)), (.int .i64 (0)), (.string ⟨#[]⟩), (.string ⟨#[]⟩), (.string ⟨#[]⟩), (.slice none 0 0), (.string ⟨#[]⟩)], [(0, 7), (7, 1)]) := by kernel_rfl
theorem bt181 : bt Tryz.prog 181 = some ([(.slice none 0 0), (.int .i64 (0))], [(0, 1), (1, 1)]) := by kernel_rfl
theorem bt199 : bt Tryz.prog 199 = some ([(.int .i64 (0)), (.string ⟨#[]⟩), (.int .i64 (0))], [(0, 1), (1, 1), (2, 1)]) := by kernel_rfl
theorem bt266 : bt Tryz.prog 266 = some ([(.slice none 0 0), (.int .i64 (0))], [(0, 1), (1, 1)]) := by kernel_rfl
theorem bt27 : bt Tryz.prog 27 = some ([(.slice none 0 0), (.slice none 0 0), (.slice none 0 0), (.int .i64 (0))], [(0, 1), (1, 1), (2, 1), (3, 1)]) := by kernel_rfl
theorem bt272 : bt Tryz.prog 272 = some ([(.int .i64 (0))], [(0, 1)]) := by kernel_rfl
theorem bt278 : bt Tryz.prog 278 = some ([(.slice none 0 0), (.int .i64 (0)), (.bool false)], [(0, 1), (1, 1), (2, 1)]) := by kernel_rfl
theorem bt29 : bt Tryz.prog 29 = some ([(.int .i64 (0)), (.int .i64 (0)), (.string ⟨#[]⟩)], [(0, 1), (1, 1), (2, 1)]) := by kernel_rfl
theorem bt31 : bt Tryz.prog 31 = some ([(.int .i64 (0)), (.int .i64 (0)), (.int .i64 (0)), (.string ⟨#[]⟩), (.string ⟨#[]⟩), (.string ⟨#[]⟩), (.slice none 0 0)], [(0, 1), (1, 3), (4, 1), (5, 1), (6, 1)]) := by kernel_rfl
theorem bt320 : bt Tryz.prog 320 = some ([(.slice none 0 0), (.int .i64 (0))], [(0, 1), (1, 1)]) := by kernel_rfl
theorem bt353 : bt Tryz.prog 353 = some ([(.slice none 0 0), (.slice none 0 0)], [(0, 1), (1, 1)]) := by kernel_rfl
theorem bt38 : bt Tryz.prog 38 = some ([(.int .i64 (0)), (.int .i64 (0)), (.int .i64 (0)), (.string ⟨#[]⟩), (.int .i64 (0)), (.slice none 0 0)], [(0, 1), (1, 3), (4, 1), (5, 1)]) := by kernel_rfl
theorem bt42 : bt Tryz.prog 42 = some ([(.int .i64 (0)), (.int .i64 (0)), (.int .i64 (0)), (.int .i64 (0)), (.int .i64 (0)), (.string ⟨#[]⟩), (.int .i64 (0)), (.slice none 0 0), (.slice none 0 0), (.slice none 0 0), (.slice none 0 0)], [(0, 1), (1, 1), (2, 6), (8, 1), (9, 1), (10, 1)]) := by kernel_rfl
theorem bt48 : bt Tryz.prog 48 = some ([(.string ⟨#[]⟩), (.int .i64 (0))], [(0, 1), (1, 1)]) := by kernel_rfl
theorem bt52 : bt Tryz.prog 52 = some ([(.string ⟨#[]⟩), (.slice none 0 0), (.bool false), (.int .i64 (0)), (.int .i64 (0)), (.int .i64 (0)), (.int .i64 (0)), (.int .i64 (0)), (.string ⟨#[]⟩), (.int .i64 (0)), (.slice none 0 0), (.slice none 0 0), (.slice none 0 0), (.slice none 0 0)], [(0, 1), (1, 1), (2, 1), (3, 11)]) := by kernel_rfl
theorem bt62 : bt Tryz.prog 62 = some ([(.int .i64 (0)), (.int .i64 (0))], [(0, 1), (1, 1)]) := by kernel_rfl
theorem bt67 : bt Tryz.prog 67 = some ([(.int .i64 (0)), (.string ⟨#[]⟩), (.slice none 0 0), (.slice none 0 0), (.slice none 0 0), (.slice none 0 0), (.int .i64 (0)), (.slice none 0 0), (.bool false), (.int .i64 (0)), (.int .i64 (0)), (.int .i64 (0)), (.string ⟨#[]⟩), (.string ⟨#[]⟩), (.string ⟨#[]⟩), (.slice none 0 0)], [(0, 1), (1, 1), (2, 1), (3, 4), (7, 1), (8, 1), (9, 7)]) := by kernel_rfl
theorem bt75 : bt Tryz.prog 75 = some ([(.int .i64 (0)), (.string ⟨#[]⟩), (.string ⟨#[]⟩), (.int .i64 (0)), (.int .i64 (0)), (.int .i64 (0)), (.string ⟨#[]⟩), (.string ⟨#[]⟩), (.string ⟨#[]⟩), (.slice none 0 0)], [(0, 1), (1, 1), (2, 1), (3, 7)]) := by kernel_rfl
theorem bt79 : bt Tryz.prog 79 = some ([(.bool false), (.bool false), (.slice none 0 0), (.slice none 0 0), (.bool false), (.bool false), (.int .i64 (0)), (.int .i64 (0)), (.int .i64 (0)), (.string ⟨#[]⟩), (.string ⟨#[]⟩), (.string ⟨#[]⟩), (.slice none 0 0), (.int .i64 (0)), (.int .i64 (0)), (.int .i64 (0)), (.string ⟨#[]⟩), (.string ⟨#[]⟩), (.string ⟨#[]⟩), (.slice none 0 0), (.slice none 0 0)], [(0, 1), (1, 1), (2, 1), (3, 1), (4, 1), (5, 1), (6, 7), (13, 7), (20, 1)]) := by kernel_rfl
theorem bt89 : bt Tryz.prog 89 = some ([(.int .i64 (0))], [(0, 1)]) := by kernel_rfl
theorem bt92 : bt Tryz.prog 92 = some ([(.slice none 0 0)], [(0, 1)]) := by kernel_rfl
theorem conc144 : Tryz.prog.concrete 144 = true := by kernel_rfl
theorem conc89 : Tryz.prog.concrete 89 = true := by kernel_rfl
theorem conc9 : Tryz.prog.concrete 9 = true := by kernel_rfl
theorem cv363_3 : cvT Tryz.prog 363 3 = some .i64 := by kernel_rfl
theorem cv3_363 : cvT Tryz.prog 3 363 = some .u64 := by kernel_rfl
theorem cvk133_328 : cvK Tryz.prog 133 328 = 0 := by kernel_rfl
theorem cvk328_133 : cvK Tryz.prog 328 133 = 0 := by kernel_rfl
theorem cvk363_3 : cvK Tryz.prog 363 3 = 0 := by kernel_rfl
theorem cvk3_363 : cvK Tryz.prog 3 363 = 0 := by kernel_rfl
theorem el112 : elSize Tryz.prog 112 = some 2 := by kernel_rfl
theorem el134 : elSize Tryz.prog 134 = some 1 := by kernel_rfl
theorem el146 : elSize Tryz.prog 146 = some 3 := by kernel_rfl
theorem el157 : elSize Tryz.prog 157 = some 3 := by kernel_rfl
theorem el22 : elSize Tryz.prog 22 = some 14 := by kernel_rfl
theorem el23 : elSize Tryz.prog 23 = some 21 := by kernel_rfl
theorem el234 : elSize Tryz.prog 234 = some 1 := by kernel_rfl
theorem el24 : elSize Tryz.prog 24 = some 1 := by kernel_rfl
theorem el25 : elSize Tryz.prog 25 = some 7 := by kernel_rfl
theorem el275 : elSize Tryz.prog 275 = some 3 := by kernel_rfl
theorem el303 : elSize Tryz.prog 303 = some 1 := by kernel_rfl
theorem el340 : elSize Tryz.prog 340 = some 1 := by kernel_rfl
theorem el345 : elSize Tryz.prog 345 = some 1 := by kernel_rfl
theorem el351 : elSize Tryz.prog 351 = some 2 := by kernel_rfl
theorem el36 : elSize Tryz.prog 36 = some 6 := by kernel_rfl
theorem el369 : elSize Tryz.prog 369 = some 1 := by kernel_rfl
theorem el39 : elSize Tryz.prog 39 = some 7 := by kernel_rfl
theorem el40 : elSize Tryz.prog 40 = some 11 := by kernel_rfl
theorem el43 : elSize Tryz.prog 43 = some 2 := by kernel_rfl
theorem el58 : elSize Tryz.prog 58 = some 1 := by kernel_rfl
theorem el65 : elSize Tryz.prog 65 = some 1 := by kernel_rfl
theorem el68 : elSize Tryz.prog 68 = some 16 := by kernel_rfl
theorem el72 : elSize Tryz.prog 72 = some 1 := by kernel_rfl
theorem el76 : elSize Tryz.prog 76 = some 10 := by kernel_rfl
theorem el77 : elSize Tryz.prog 77 = some 8 := by kernel_rfl
theorem el80 : elSize Tryz.prog 80 = some 2 := by kernel_rfl
theorem el93 : elSize Tryz.prog 93 = some 1 := by kernel_rfl
theorem el99 : elSize Tryz.prog 99 = some 2 := by kernel_rfl
theorem fd29_0 : fdP Tryz.prog 29 0 = some (false, 0, 1) := by kernel_rfl
theorem fo102_0 : fOff Tryz.prog 102 0 = some 0 := by kernel_rfl
theorem fo102_1 : fOff Tryz.prog 102 1 = some 1 := by kernel_rfl
theorem fo102_2 : fOff Tryz.prog 102 2 = some 2 := by kernel_rfl
theorem fo102_3 : fOff Tryz.prog 102 3 = some 3 := by kernel_rfl
theorem fo104_0 : fOff Tryz.prog 104 0 = some 0 := by kernel_rfl
theorem fo104_1 : fOff Tryz.prog 104 1 = some 1 := by kernel_rfl
theorem fo108_0 : fOff Tryz.prog 108 0 = some 0 := by kernel_rfl
theorem fo114_0 : fOff Tryz.prog 114 0 = some 0 := by kernel_rfl
theorem fo114_1 : fOff Tryz.prog 114 1 = some 1 := by kernel_rfl
theorem fo114_2 : fOff Tryz.prog 114 2 = some 2 := by kernel_rfl
theorem fo114_3 : fOff Tryz.prog 114 3 = some 3 := by kernel_rfl
theorem fo116_0 : fOff Tryz.prog 116 0 = some 0 := by kernel_rfl
theorem fo116_1 : fOff Tryz.prog 116 1 = some 1 := by kernel_rfl
theorem fo119_0 : fOff Tryz.prog 119 0 = some 0 := by kernel_rfl
theorem fo119_1 : fOff Tryz.prog 119 1 = some 1 := by kernel_rfl
theorem fo127_0 : fOff Tryz.prog 127 0 = some 0 := by kernel_rfl
theorem fo127_1 : fOff Tryz.prog 127 1 = some 1 := by kernel_rfl
theorem fo136_0 : fOff Tryz.prog 136 0 = some 0 := by kernel_rfl
theorem fo136_1 : fOff Tryz.prog 136 1 = some 1 := by kernel_rfl
theorem fo138_0 : fOff Tryz.prog 138 0 = some 0 := by kernel_rfl
theorem fo144_0 : fOff Tryz.prog 144 0 = some 0 := by kernel_rfl
theorem fo149_0 : fOff Tryz.prog 149 0 = some 0 := by kernel_rfl
theorem fo149_1 : fOff Tryz.prog 149 1 = some 1 := by kernel_rfl
theorem fo149_2 : fOff Tryz.prog 149 2 = some 2 := by kernel_rfl
theorem fo159_0 : fOff Tryz.prog 159 0 = some 0 := by kernel_rfl
theorem fo159_1 : fOff Tryz.prog 159 1 = some 1 := by kernel_rfl
theorem fo161_0 : fOff Tryz.prog 161 0 = some 0 := by kernel_rfl
theorem fo161_1 : fOff Tryz.prog 161 1 = some 7 := by kernel_rfl
theorem fo181_0 : fOff Tryz.prog 181 0 = some 0 := by kernel_rfl
theorem fo181_1 : fOff Tryz.prog 181 1 = some 1 := by kernel_rfl
theorem fo199_0 : fOff Tryz.prog 199 0 = some 0 := by kernel_rfl
theorem fo199_1 : fOff Tryz.prog 199 1 = some 1 := by kernel_rfl
theorem fo199_2 : fOff Tryz.prog 199 2 = some 2 := by kernel_rfl
theorem fo266_0 : fOff Tryz.prog 266 0 = some 0 := by kernel_rfl
theorem fo266_1 : fOff Tryz.prog 266 1 = some 1 := by kernel_rfl
theorem fo272_0 : fOff Tryz.prog 272 0 = some 0 := by kernel_rfl
theorem fo278_0 : fOff Tryz.prog 278 0 = some 0 := by kernel_rfl
theorem fo278_1 : fOff Tryz.prog 278 1 = some 1 := by kernel_rfl
theorem fo278_2 : fOff Tryz.prog 278 2 = some 2 := by kernel_rfl
theorem fo27_0 : fOff Tryz.prog 27 0 = some 0 := by kernel_rfl
theorem fo27_1 : fOff Tryz.prog 27 1 = some 1 := by kernel_rfl
theorem fo27_2 : fOff Tryz.prog 27 2 = some 2 := by kernel_rfl
theorem fo27_3 : fOff Tryz.prog 27 3 = some 3 := by kernel_rfl
theorem fo29_0 : fOff Tryz.prog 29 0 = some 0 := by kernel_rfl
theorem fo29_1 : fOff Tryz.prog 29 1 = some 1 := by kernel_rfl
theorem fo29_2 : fOff Tryz.prog 29 2 = some 2 := by kernel_rfl
theorem fo31_0 : fOff Tryz.prog 31 0 = some 0 := by kernel_rfl
theorem fo31_1 : fOff Tryz.prog 31 1 = some 1 := by kernel_rfl
theorem fo31_2 : fOff Tryz.prog 31 2 = some 4 := by kernel_rfl
theorem fo31_3 : fOff Tryz.prog 31 3 = some 5 := by kernel_rfl
theorem fo31_4 : fOff Tryz.prog 31 4 = some 6 := by kernel_rfl
theorem fo320_0 : fOff Tryz.prog 320 0 = some 0 := by kernel_rfl
theorem fo320_1 : fOff Tryz.prog 320 1 = some 1 := by kernel_rfl
theorem fo353_0 : fOff Tryz.prog 353 0 = some 0 := by kernel_rfl
theorem fo353_1 : fOff Tryz.prog 353 1 = some 1 := by kernel_rfl
theorem fo388_0 : fOff Tryz.prog 388 0 = some 0 := by kernel_rfl
theorem fo388_1 : fOff Tryz.prog 388 1 = some 1 := by kernel_rfl
theorem fo38_0 : fOff Tryz.prog 38 0 = some 0 := by kernel_rfl
theorem fo38_1 : fOff Tryz.prog 38 1 = some 1 := by kernel_rfl
theorem fo38_2 : fOff Tryz.prog 38 2 = some 4 := by kernel_rfl
theorem fo38_3 : fOff Tryz.prog 38 3 = some 5 := by kernel_rfl
theorem fo42_0 : fOff Tryz.prog 42 0 = some 0 := by kernel_rfl
theorem fo42_1 : fOff Tryz.prog 42 1 = some 1 := by kernel_rfl
theorem fo42_2 : fOff Tryz.prog 42 2 = some 2 := by kernel_rfl
theorem fo42_3 : fOff Tryz.prog 42 3 = some 8 := by kernel_rfl
theorem fo42_4 : fOff Tryz.prog 42 4 = some 9 := by kernel_rfl
theorem fo42_5 : fOff Tryz.prog 42 5 = some 10 := by kernel_rfl
theorem fo48_0 : fOff Tryz.prog 48 0 = some 0 := by kernel_rfl
theorem fo48_1 : fOff Tryz.prog 48 1 = some 1 := by kernel_rfl
theorem fo52_0 : fOff Tryz.prog 52 0 = some 0 := by kernel_rfl
theorem fo52_1 : fOff Tryz.prog 52 1 = some 1 := by kernel_rfl
theorem fo52_2 : fOff Tryz.prog 52 2 = some 2 := by kernel_rfl
theorem fo52_3 : fOff Tryz.prog 52 3 = some 3 := by kernel_rfl
theorem fo62_0 : fOff Tryz.prog 62 0 = some 0 := by kernel_rfl
theorem fo67_0 : fOff Tryz.prog 67 0 = some 0 := by kernel_rfl
theorem fo67_1 : fOff Tryz.prog 67 1 = some 1 := by kernel_rfl
theorem fo67_2 : fOff Tryz.prog 67 2 = some 2 := by kernel_rfl
theorem fo67_3 : fOff Tryz.prog 67 3 = some 3 := by kernel_rfl
theorem fo67_4 : fOff Tryz.prog 67 4 = some 7 := by kernel_rfl
theorem fo67_5 : fOff Tryz.prog 67 5 = some 8 := by kernel_rfl
theorem fo67_6 : fOff Tryz.prog 67 6 = some 9 := by kernel_rfl
theorem fo75_0 : fOff Tryz.prog 75 0 = some 0 := by kernel_rfl
theorem fo75_1 : fOff Tryz.prog 75 1 = some 1 := by kernel_rfl
theorem fo75_2 : fOff Tryz.prog 75 2 = some 2 := by kernel_rfl
theorem fo75_3 : fOff Tryz.prog 75 3 = some 3 := by kernel_rfl
theorem fo79_0 : fOff Tryz.prog 79 0 = some 0 := by kernel_rfl
theorem fo79_1 : fOff Tryz.prog 79 1 = some 1 := by kernel_rfl
theorem fo79_2 : fOff Tryz.prog 79 2 = some 2 := by kernel_rfl
theorem fo79_3 : fOff Tryz.prog 79 3 = some 3 := by kernel_rfl
theorem fo79_4 : fOff Tryz.prog 79 4 = some 4 := by kernel_rfl
theorem fo79_5 : fOff Tryz.prog 79 5 = some 5 := by kernel_rfl
theorem fo79_6 : fOff Tryz.prog 79 6 = some 6 := by kernel_rfl
theorem fo79_7 : fOff Tryz.prog 79 7 = some 13 := by kernel_rfl
theorem fo79_8 : fOff Tryz.prog 79 8 = some 20 := by kernel_rfl
theorem fo89_0 : fOff Tryz.prog 89 0 = some 0 := by kernel_rfl
theorem fo92_0 : fOff Tryz.prog 92 0 = some 0 := by kernel_rfl
theorem ibl4 : isBoolT Tryz.prog 4 = true := by kernel_rfl
theorem isl112 : isSlT Tryz.prog 112 = true := by kernel_rfl
theorem isl134 : isSlT Tryz.prog 134 = true := by kernel_rfl
theorem isl146 : isSlT Tryz.prog 146 = true := by kernel_rfl
theorem isl157 : isSlT Tryz.prog 157 = true := by kernel_rfl
theorem isl22 : isSlT Tryz.prog 22 = true := by kernel_rfl
theorem isl23 : isSlT Tryz.prog 23 = true := by kernel_rfl
theorem isl24 : isSlT Tryz.prog 24 = true := by kernel_rfl
theorem isl25 : isSlT Tryz.prog 25 = true := by kernel_rfl
theorem isl275 : isSlT Tryz.prog 275 = true := by kernel_rfl
theorem isl340 : isSlT Tryz.prog 340 = true := by kernel_rfl
theorem isl351 : isSlT Tryz.prog 351 = true := by kernel_rfl
theorem isl36 : isSlT Tryz.prog 36 = true := by kernel_rfl
theorem isl369 : isSlT Tryz.prog 369 = true := by kernel_rfl
theorem isl39 : isSlT Tryz.prog 39 = true := by kernel_rfl
theorem isl40 : isSlT Tryz.prog 40 = true := by kernel_rfl
theorem isl43 : isSlT Tryz.prog 43 = true := by kernel_rfl
theorem isl58 : isSlT Tryz.prog 58 = true := by kernel_rfl
theorem isl65 : isSlT Tryz.prog 65 = true := by kernel_rfl
theorem isl68 : isSlT Tryz.prog 68 = true := by kernel_rfl
theorem isl72 : isSlT Tryz.prog 72 = true := by kernel_rfl
theorem isl76 : isSlT Tryz.prog 76 = true := by kernel_rfl
theorem isl77 : isSlT Tryz.prog 77 = true := by kernel_rfl
theorem isl80 : isSlT Tryz.prog 80 = true := by kernel_rfl
theorem isl9 : isSlT Tryz.prog 9 = false := by kernel_rfl
theorem isl93 : isSlT Tryz.prog 93 = true := by kernel_rfl
theorem isl99 : isSlT Tryz.prog 99 = true := by kernel_rfl
theorem ist112 : isStrT Tryz.prog 112 = false := by kernel_rfl
theorem ist134 : isStrT Tryz.prog 134 = false := by kernel_rfl
theorem ist146 : isStrT Tryz.prog 146 = false := by kernel_rfl
theorem ist157 : isStrT Tryz.prog 157 = false := by kernel_rfl
theorem ist22 : isStrT Tryz.prog 22 = false := by kernel_rfl
theorem ist23 : isStrT Tryz.prog 23 = false := by kernel_rfl
theorem ist24 : isStrT Tryz.prog 24 = false := by kernel_rfl
theorem ist25 : isStrT Tryz.prog 25 = false := by kernel_rfl
theorem ist275 : isStrT Tryz.prog 275 = false := by kernel_rfl
theorem ist340 : isStrT Tryz.prog 340 = false := by kernel_rfl
theorem ist351 : isStrT Tryz.prog 351 = false := by kernel_rfl
theorem ist36 : isStrT Tryz.prog 36 = false := by kernel_rfl
theorem ist369 : isStrT Tryz.prog 369 = false := by kernel_rfl
theorem ist39 : isStrT Tryz.prog 39 = false := by kernel_rfl
theorem ist40 : isStrT Tryz.prog 40 = false := by kernel_rfl
theorem ist43 : isStrT Tryz.prog 43 = false := by kernel_rfl
theorem ist58 : isStrT Tryz.prog 58 = false := by kernel_rfl
theorem ist65 : isStrT Tryz.prog 65 = false := by kernel_rfl
theorem ist68 : isStrT Tryz.prog 68 = false := by kernel_rfl
theorem ist72 : isStrT Tryz.prog 72 = false := by kernel_rfl
theorem ist76 : isStrT Tryz.prog 76 = false := by kernel_rfl
theorem ist77 : isStrT Tryz.prog 77 = false := by kernel_rfl
theorem ist80 : isStrT Tryz.prog 80 = false := by kernel_rfl
theorem ist9 : isStrT Tryz.prog 9 = true := by kernel_rfl
theorem ist93 : isStrT Tryz.prog 93 = false := by kernel_rfl
theorem ist99 : isStrT Tryz.prog 99 = false := by kernel_rfl
theorem mt216 : mapT Tryz.prog 216 = some .i64 := by kernel_rfl
theorem mt242 : mapT Tryz.prog 242 = some .i64 := by kernel_rfl
theorem nt10 : Tryz.f10.ntmps = 113 := by kernel_rfl
theorem nt100 : Tryz.f100.ntmps = 14 := by kernel_rfl
theorem nt101 : Tryz.f101.ntmps = 7 := by kernel_rfl
theorem nt105 : Tryz.f105.ntmps = 49 := by kernel_rfl
theorem nt106 : Tryz.f106.ntmps = 9 := by kernel_rfl
theorem nt107 : Tryz.f107.ntmps = 8 := by kernel_rfl
theorem nt108 : Tryz.f108.ntmps = 19 := by kernel_rfl
theorem nt109 : Tryz.f109.ntmps = 9 := by kernel_rfl
theorem nt110 : Tryz.f110.ntmps = 4 := by kernel_rfl
theorem nt119 : Tryz.f119.ntmps = 18 := by kernel_rfl
theorem nt120 : Tryz.f120.ntmps = 32 := by kernel_rfl
theorem nt121 : Tryz.f121.ntmps = 6 := by kernel_rfl
theorem nt122 : Tryz.f122.ntmps = 37 := by kernel_rfl
theorem nt123 : Tryz.f123.ntmps = 60 := by kernel_rfl
theorem nt124 : Tryz.f124.ntmps = 27 := by kernel_rfl
theorem nt125 : Tryz.f125.ntmps = 127 := by kernel_rfl
theorem nt126 : Tryz.f126.ntmps = 15 := by kernel_rfl
theorem nt127 : Tryz.f127.ntmps = 33 := by kernel_rfl
theorem nt128 : Tryz.f128.ntmps = 6 := by kernel_rfl
theorem nt129 : Tryz.f129.ntmps = 17 := by kernel_rfl
theorem nt138 : Tryz.f138.ntmps = 13 := by kernel_rfl
theorem nt139 : Tryz.f139.ntmps = 20 := by kernel_rfl
theorem nt140 : Tryz.f140.ntmps = 9 := by kernel_rfl
theorem nt141 : Tryz.f141.ntmps = 9 := by kernel_rfl
theorem nt142 : Tryz.f142.ntmps = 8 := by kernel_rfl
theorem nt143 : Tryz.f143.ntmps = 42 := by kernel_rfl
theorem nt144 : Tryz.f144.ntmps = 49 := by kernel_rfl
theorem nt145 : Tryz.f145.ntmps = 77 := by kernel_rfl
theorem nt146 : Tryz.f146.ntmps = 24 := by kernel_rfl
theorem nt147 : Tryz.f147.ntmps = 24 := by kernel_rfl
theorem nt148 : Tryz.f148.ntmps = 57 := by kernel_rfl
theorem nt149 : Tryz.f149.ntmps = 24 := by kernel_rfl
theorem nt150 : Tryz.f150.ntmps = 15 := by kernel_rfl
theorem nt151 : Tryz.f151.ntmps = 76 := by kernel_rfl
theorem nt152 : Tryz.f152.ntmps = 19 := by kernel_rfl
theorem nt153 : Tryz.f153.ntmps = 88 := by kernel_rfl
theorem nt16 : Tryz.f16.ntmps = 56 := by kernel_rfl
theorem nt17 : Tryz.f17.ntmps = 50 := by kernel_rfl
theorem nt170 : Tryz.f170.ntmps = 19 := by kernel_rfl
theorem nt173 : Tryz.f173.ntmps = 2 := by kernel_rfl
theorem nt174 : Tryz.f174.ntmps = 137 := by kernel_rfl
theorem nt175 : Tryz.f175.ntmps = 132 := by kernel_rfl
theorem nt176 : Tryz.f176.ntmps = 104 := by kernel_rfl
theorem nt18 : Tryz.f18.ntmps = 36 := by kernel_rfl
theorem nt180 : Tryz.f180.ntmps = 15 := by kernel_rfl
theorem nt182 : Tryz.f182.ntmps = 18 := by kernel_rfl
theorem nt183 : Tryz.f183.ntmps = 2 := by kernel_rfl
theorem nt184 : Tryz.f184.ntmps = 24 := by kernel_rfl
theorem nt185 : Tryz.f185.ntmps = 13 := by kernel_rfl
theorem nt186 : Tryz.f186.ntmps = 24 := by kernel_rfl
theorem nt187 : Tryz.f187.ntmps = 23 := by kernel_rfl
theorem nt189 : Tryz.f189.ntmps = 8 := by kernel_rfl
theorem nt190 : Tryz.f190.ntmps = 136 := by kernel_rfl
theorem nt191 : Tryz.f191.ntmps = 9 := by kernel_rfl
theorem nt192 : Tryz.f192.ntmps = 19 := by kernel_rfl
theorem nt193 : Tryz.f193.ntmps = 12 := by kernel_rfl
theorem nt20 : Tryz.f20.ntmps = 43 := by kernel_rfl
theorem nt22 : Tryz.f22.ntmps = 37 := by kernel_rfl
theorem nt226 : Tryz.f226.ntmps = 31 := by kernel_rfl
theorem nt227 : Tryz.f227.ntmps = 68 := by kernel_rfl
theorem nt228 : Tryz.f228.ntmps = 18 := by kernel_rfl
theorem nt229 : Tryz.f229.ntmps = 12 := by kernel_rfl
theorem nt230 : Tryz.f230.ntmps = 12 := by kernel_rfl
theorem nt231 : Tryz.f231.ntmps = 8 := by kernel_rfl
theorem nt232 : Tryz.f232.ntmps = 44 := by kernel_rfl
theorem nt233 : Tryz.f233.ntmps = 43 := by kernel_rfl
theorem nt25 : Tryz.f25.ntmps = 152 := by kernel_rfl
theorem nt26 : Tryz.f26.ntmps = 78 := by kernel_rfl
theorem nt27 : Tryz.f27.ntmps = 37 := by kernel_rfl
theorem nt271 : Tryz.f271.ntmps = 24 := by kernel_rfl
theorem nt272 : Tryz.f272.ntmps = 19 := by kernel_rfl
theorem nt273 : Tryz.f273.ntmps = 8 := by kernel_rfl
theorem nt274 : Tryz.f274.ntmps = 7 := by kernel_rfl
theorem nt28 : Tryz.f28.ntmps = 15 := by kernel_rfl
theorem nt29 : Tryz.f29.ntmps = 209 := by kernel_rfl
theorem nt30 : Tryz.f30.ntmps = 33 := by kernel_rfl
theorem nt31 : Tryz.f31.ntmps = 22 := by kernel_rfl
theorem nt37 : Tryz.f37.ntmps = 76 := by kernel_rfl
theorem nt38 : Tryz.f38.ntmps = 26 := by kernel_rfl
theorem nt39 : Tryz.f39.ntmps = 25 := by kernel_rfl
theorem nt4 : Tryz.f4.ntmps = 64 := by kernel_rfl
theorem nt40 : Tryz.f40.ntmps = 200 := by kernel_rfl
theorem nt41 : Tryz.f41.ntmps = 8 := by kernel_rfl
theorem nt42 : Tryz.f42.ntmps = 25 := by kernel_rfl
theorem nt44 : Tryz.f44.ntmps = 8 := by kernel_rfl
theorem nt46 : Tryz.f46.ntmps = 13 := by kernel_rfl
theorem nt47 : Tryz.f47.ntmps = 38 := by kernel_rfl
theorem nt48 : Tryz.f48.ntmps = 9 := by kernel_rfl
theorem nt49 : Tryz.f49.ntmps = 20 := by kernel_rfl
theorem nt50 : Tryz.f50.ntmps = 82 := by kernel_rfl
theorem nt51 : Tryz.f51.ntmps = 20 := by kernel_rfl
theorem nt53 : Tryz.f53.ntmps = 13 := by kernel_rfl
theorem nt54 : Tryz.f54.ntmps = 9 := by kernel_rfl
theorem nt55 : Tryz.f55.ntmps = 15 := by kernel_rfl
theorem nt58 : Tryz.f58.ntmps = 15 := by kernel_rfl
theorem nt59 : Tryz.f59.ntmps = 13 := by kernel_rfl
theorem nt60 : Tryz.f60.ntmps = 48 := by kernel_rfl
theorem nt61 : Tryz.f61.ntmps = 113 := by kernel_rfl
theorem nt62 : Tryz.f62.ntmps = 9 := by kernel_rfl
theorem nt63 : Tryz.f63.ntmps = 9 := by kernel_rfl
theorem nt64 : Tryz.f64.ntmps = 5 := by kernel_rfl
theorem nt65 : Tryz.f65.ntmps = 15 := by kernel_rfl
theorem nt66 : Tryz.f66.ntmps = 5 := by kernel_rfl
theorem nt67 : Tryz.f67.ntmps = 23 := by kernel_rfl
theorem nt68 : Tryz.f68.ntmps = 6 := by kernel_rfl
theorem nt7 : Tryz.f7.ntmps = 99 := by kernel_rfl
theorem nt76 : Tryz.f76.ntmps = 19 := by kernel_rfl
theorem nt77 : Tryz.f77.ntmps = 6 := by kernel_rfl
theorem nt78 : Tryz.f78.ntmps = 62 := by kernel_rfl
theorem nt79 : Tryz.f79.ntmps = 65 := by kernel_rfl
theorem nt8 : Tryz.f8.ntmps = 6 := by kernel_rfl
theorem nt80 : Tryz.f80.ntmps = 50 := by kernel_rfl
theorem nt81 : Tryz.f81.ntmps = 20 := by kernel_rfl
theorem nt82 : Tryz.f82.ntmps = 24 := by kernel_rfl
theorem nt83 : Tryz.f83.ntmps = 35 := by kernel_rfl
theorem nt84 : Tryz.f84.ntmps = 51 := by kernel_rfl
theorem nt85 : Tryz.f85.ntmps = 72 := by kernel_rfl
theorem nt86 : Tryz.f86.ntmps = 36 := by kernel_rfl
theorem nt87 : Tryz.f87.ntmps = 150 := by kernel_rfl
theorem nt9 : Tryz.f9.ntmps = 76 := by kernel_rfl
theorem nt93 : Tryz.f93.ntmps = 102 := by kernel_rfl
theorem nt94 : Tryz.f94.ntmps = 17 := by kernel_rfl
theorem nt95 : Tryz.f95.ntmps = 45 := by kernel_rfl
theorem nt96 : Tryz.f96.ntmps = 65 := by kernel_rfl
theorem nt97 : Tryz.f97.ntmps = 24 := by kernel_rfl
theorem nt98 : Tryz.f98.ntmps = 28 := by kernel_rfl
theorem nt99 : Tryz.f99.ntmps = 24 := by kernel_rfl
theorem okt112 : okT Tryz.prog 112 = true := by kernel_rfl
theorem okt134 : okT Tryz.prog 134 = true := by kernel_rfl
theorem okt146 : okT Tryz.prog 146 = true := by kernel_rfl
theorem okt157 : okT Tryz.prog 157 = true := by kernel_rfl
theorem okt22 : okT Tryz.prog 22 = true := by kernel_rfl
theorem okt23 : okT Tryz.prog 23 = true := by kernel_rfl
theorem okt234 : okT Tryz.prog 234 = true := by kernel_rfl
theorem okt24 : okT Tryz.prog 24 = true := by kernel_rfl
theorem okt25 : okT Tryz.prog 25 = true := by kernel_rfl
theorem okt275 : okT Tryz.prog 275 = true := by kernel_rfl
theorem okt340 : okT Tryz.prog 340 = true := by kernel_rfl
theorem okt345 : okT Tryz.prog 345 = true := by kernel_rfl
theorem okt351 : okT Tryz.prog 351 = true := by kernel_rfl
theorem okt36 : okT Tryz.prog 36 = true := by kernel_rfl
theorem okt369 : okT Tryz.prog 369 = true := by kernel_rfl
theorem okt39 : okT Tryz.prog 39 = true := by kernel_rfl
theorem okt40 : okT Tryz.prog 40 = true := by kernel_rfl
theorem okt43 : okT Tryz.prog 43 = true := by kernel_rfl
theorem okt58 : okT Tryz.prog 58 = true := by kernel_rfl
theorem okt65 : okT Tryz.prog 65 = true := by kernel_rfl
theorem okt68 : okT Tryz.prog 68 = true := by kernel_rfl
theorem okt72 : okT Tryz.prog 72 = true := by kernel_rfl
theorem okt76 : okT Tryz.prog 76 = true := by kernel_rfl
theorem okt77 : okT Tryz.prog 77 = true := by kernel_rfl
theorem okt80 : okT Tryz.prog 80 = true := by kernel_rfl
theorem okt93 : okT Tryz.prog 93 = true := by kernel_rfl
theorem okt99 : okT Tryz.prog 99 = true := by kernel_rfl
theorem row112 : rowT Tryz.prog 112 = some (116, 2, [(.string ⟨#[]⟩), (.string ⟨#[]⟩)]) := by kernel_rfl
theorem row134 : rowT Tryz.prog 134 = some (5, 1, [(.int .u8 (0))]) := by kernel_rfl
theorem row146 : rowT Tryz.prog 146 = some (199, 3, [(.int .i64 (0)), (.string ⟨#[]⟩), (.int .i64 (0))]) := by kernel_rfl
theorem row157 : rowT Tryz.prog 157 = some (29, 3, [(.int .i64 (0)), (.int .i64 (0)), (.string ⟨#[]⟩)]) := by kernel_rfl
theorem row22 : rowT Tryz.prog 22 = some (52, 14, [(.string ⟨#[]⟩), (.slice none 0 0), (.bool false), (.int .i64 (0)), (.int .i64 (0)), (.int .i64 (0)), (.int .i64 (0)), (.int .i64 (0)), (.string ⟨#[]⟩), (.int .i64 (0)), (.slice none 0 0), (.slice none 0 0), (.slice none 0 0), (.slice none 0 0)]) := by kernel_rfl
theorem row23 : rowT Tryz.prog 23 = some (79, 21, [(.bool false), (.bool false), (.slice none 0 0), (.slice none 0 0), (.bool false), (.bool false), (.int .i64 (0)), (.int .i64 (0)), (.int .i64 (0)), (.string ⟨#[]⟩), (.string ⟨#[]⟩), (.string ⟨#[]⟩), (.slice none 0 0), (.int .i64 (0)), (.int .i64 (0)), (.int .i64 (0)), (.string ⟨#[]⟩), (.string ⟨#[]⟩), (.string ⟨#[]⟩), (.slice none 0 0), (.slice none 0 0)]) := by kernel_rfl
theorem row234 : rowT Tryz.prog 234 = some (93, 1, [(.slice none 0 0)]) := by kernel_rfl
theorem row24 : rowT Tryz.prog 24 = some (3, 1, [(.int .i64 (0))]) := by kernel_rfl
theorem row25 : rowT Tryz.prog 25 = some (31, 7, [(.int .i64 (0)), (.int .i64 (0)), (.int .i64 (0)), (.string ⟨#[]⟩), (.string ⟨#[]⟩), (.string ⟨#[]⟩), (.slice none 0 0)]) := by kernel_rfl
theorem row275 : rowT Tryz.prog 275 = some (278, 3, [(.slice none 0 0), (.int .i64 (0)), (.bool false)]) := by kernel_rfl
theorem row340 : rowT Tryz.prog 340 = some (32, 1, [(.int .i64 (0))]) := by kernel_rfl
theorem row345 : rowT Tryz.prog 345 = some (21, 1, [(.int .i32 (0))]) := by kernel_rfl
theorem row351 : rowT Tryz.prog 351 = some (353, 2, [(.slice none 0 0), (.slice none 0 0)]) := by kernel_rfl
theorem row36 : rowT Tryz.prog 36 = some (38, 6, [(.int .i64 (0)), (.int .i64 (0)), (.int .i64 (0)), (.string ⟨#[]⟩), (.int .i64 (0)), (.slice none 0 0)]) := by kernel_rfl
theorem row369 : rowT Tryz.prog 369 = some (325, 1, [.nilFunc]) := by kernel_rfl
theorem row39 : rowT Tryz.prog 39 = some (119, 7, [(.int .i64 (0)), (.int .i64 (0)), (.int .i64 (0)), (.int .i64 (0)), (.string ⟨#[]⟩), (.int .i64 (0)), (.slice none 0 0)]) := by kernel_rfl
theorem row40 : rowT Tryz.prog 40 = some (42, 11, [(.int .i64 (0)), (.int .i64 (0)), (.int .i64 (0)), (.int .i64 (0)), (.int .i64 (0)), (.string ⟨#[]⟩), (.int .i64 (0)), (.slice none 0 0), (.slice none 0 0), (.slice none 0 0), (.slice none 0 0)]) := by kernel_rfl
theorem row43 : rowT Tryz.prog 43 = some (48, 2, [(.string ⟨#[]⟩), (.int .i64 (0))]) := by kernel_rfl
theorem row58 : rowT Tryz.prog 58 = some (24, 1, [(.slice none 0 0)]) := by kernel_rfl
theorem row65 : rowT Tryz.prog 65 = some (157, 1, [(.slice none 0 0)]) := by kernel_rfl
theorem row68 : rowT Tryz.prog 68 = some (67, 16, [(.int .i64 (0)), (.string ⟨#[]⟩), (.slice none 0 0), (.slice none 0 0), (.slice none 0 0), (.slice none 0 0), (.int .i64 (0)), (.slice none 0 0), (.bool false), (.int .i64 (0)), (.int .i64 (0)), (.int .i64 (0)), (.string ⟨#[]⟩), (.string ⟨#[]⟩), (.string ⟨#[]⟩), (.slice none 0 0)]) := by kernel_rfl
theorem row72 : rowT Tryz.prog 72 = some (80, 1, [(.slice none 0 0)]) := by kernel_rfl
theorem row76 : rowT Tryz.prog 76 = some (75, 10, [(.int .i64 (0)), (.string ⟨#[]⟩), (.string ⟨#[]⟩), (.int .i64 (0)), (.int .i64 (0)), (.int .i64 (0)), (.string ⟨#[]⟩), (.string ⟨#[]⟩), (.string ⟨#[]⟩), (.slice none 0 0)]) := by kernel_rfl
theorem row77 : rowT Tryz.prog 77 = some (161, 8, [(.int .i64 (0)), (.int .i64 (0)), (.int .i64 (0)), (.string ⟨#[]⟩), (.string ⟨#[]⟩), (.string ⟨#[]⟩), (.slice none 0 0), (.string ⟨#[]⟩)]) := by kernel_rfl
theorem row80 : rowT Tryz.prog 80 = some (159, 2, [(.slice none 0 0), (.int .i64 (0))]) := by kernel_rfl
theorem row93 : rowT Tryz.prog 93 = some (9, 1, [(.string ⟨#[]⟩)]) := by kernel_rfl
theorem row99 : rowT Tryz.prog 99 = some (104, 2, [(.string ⟨#[]⟩), (.string ⟨#[]⟩)]) := by kernel_rfl
theorem rs10 : Tryz.f10.results.toList = [.cell 4 42, .cell 5 43, .cell 6 32] := by kernel_rfl
theorem rs100 : Tryz.f100.results.toList = [.tmp 2] := by kernel_rfl
theorem rs101 : Tryz.f101.results.toList = [.cell 2 31] := by kernel_rfl
theorem rs105 : Tryz.f105.results.toList = [.cell 4 42, .tmp 5] := by kernel_rfl
theorem rs106 : Tryz.f106.results.toList = [.tmp 4] := by kernel_rfl
theorem rs107 : Tryz.f107.results.toList = [.tmp 2] := by kernel_rfl
theorem rs108 : Tryz.f108.results.toList = [.tmp 4] := by kernel_rfl
theorem rs109 : Tryz.f109.results.toList = [.tmp 4] := by kernel_rfl
theorem rs110 : Tryz.f110.results.toList = [.tmp 2] := by kernel_rfl
theorem rs119 : Tryz.f119.results.toList = [.cell 2 29] := by kernel_rfl
theorem rs120 : Tryz.f120.results.toList = [.tmp 6] := by kernel_rfl
theorem rs121 : Tryz.f121.results.toList = [.tmp 4] := by kernel_rfl
theorem rs122 : Tryz.f122.results.toList = [.tmp 4, .tmp 5] := by kernel_rfl
theorem rs123 : Tryz.f123.results.toList = [.tmp 4, .tmp 5] := by kernel_rfl
theorem rs124 : Tryz.f124.results.toList = [.tmp 4] := by kernel_rfl
theorem rs125 : Tryz.f125.results.toList = [.tmp 2] := by kernel_rfl
theorem rs126 : Tryz.f126.results.toList = [.tmp 2] := by kernel_rfl
theorem rs127 : Tryz.f127.results.toList = [.tmp 2] := by kernel_rfl
theorem rs128 : Tryz.f128.results.toList = [.tmp 2] := by kernel_rfl
theorem rs129 : Tryz.f129.results.toList = [.tmp 4] := by kernel_rfl
theorem rs138 : Tryz.f138.results.toList = [.tmp 2] := by kernel_rfl
theorem rs139 : Tryz.f139.results.toList = [.tmp 4] := by kernel_rfl
theorem rs140 : Tryz.f140.results.toList = [.tmp 2] := by kernel_rfl
theorem rs141 : Tryz.f141.results.toList = [.tmp 2] := by kernel_rfl
theorem rs142 : Tryz.f142.results.toList = [.tmp 4] := by kernel_rfl
theorem rs143 : Tryz.f143.results.toList = [.tmp 4] := by kernel_rfl
theorem rs144 : Tryz.f144.results.toList = [.tmp 2] := by kernel_rfl
theorem rs145 : Tryz.f145.results.toList = [.cell 2 79] := by kernel_rfl
theorem rs146 : Tryz.f146.results.toList = [.tmp 2] := by kernel_rfl
theorem rs147 : Tryz.f147.results.toList = [.tmp 6] := by kernel_rfl
theorem rs148 : Tryz.f148.results.toList = [.tmp 2] := by kernel_rfl
theorem rs149 : Tryz.f149.results.toList = [.tmp 6] := by kernel_rfl
theorem rs150 : Tryz.f150.results.toList = [.cell 1 29] := by kernel_rfl
theorem rs151 : Tryz.f151.results.toList = [.cell 2 29, .tmp 3] := by kernel_rfl
theorem rs152 : Tryz.f152.results.toList = [.tmp 2] := by kernel_rfl
theorem rs153 : Tryz.f153.results.toList = [.cell 4 31] := by kernel_rfl
theorem rs16 : Tryz.f16.results.toList = [.tmp 0] := by kernel_rfl
theorem rs17 : Tryz.f17.results.toList = [.tmp 4, .tmp 5] := by kernel_rfl
theorem rs170 : Tryz.f170.results.toList = [.tmp 4] := by kernel_rfl
theorem rs173 : Tryz.f173.results.toList = [.cell 0 29] := by kernel_rfl
theorem rs174 : Tryz.f174.results.toList = [.tmp 6, .tmp 7] := by kernel_rfl
theorem rs175 : Tryz.f175.results.toList = [.tmp 2] := by kernel_rfl
theorem rs176 : Tryz.f176.results.toList = [.tmp 6] := by kernel_rfl
theorem rs18 : Tryz.f18.results.toList = [.tmp 2] := by kernel_rfl
theorem rs180 : Tryz.f180.results.toList = [.tmp 0] := by kernel_rfl
theorem rs182 : Tryz.f182.results.toList = [.tmp 4] := by kernel_rfl
theorem rs183 : Tryz.f183.results.toList = [.tmp 0] := by kernel_rfl
theorem rs184 : Tryz.f184.results.toList = [.tmp 6] := by kernel_rfl
theorem rs185 : Tryz.f185.results.toList = [.cell 2 161] := by kernel_rfl
theorem rs186 : Tryz.f186.results.toList = [.cell 4 75] := by kernel_rfl
theorem rs187 : Tryz.f187.results.toList = [.tmp 2] := by kernel_rfl
theorem rs189 : Tryz.f189.results.toList = [] := by kernel_rfl
theorem rs190 : Tryz.f190.results.toList = [.cell 2 31] := by kernel_rfl
theorem rs191 : Tryz.f191.results.toList = [.cell 4 31] := by kernel_rfl
theorem rs192 : Tryz.f192.results.toList = [.tmp 4] := by kernel_rfl
theorem rs193 : Tryz.f193.results.toList = [.cell 6 31] := by kernel_rfl
theorem rs20 : Tryz.f20.results.toList = [.cell 2 68, .cell 3 62] := by kernel_rfl
theorem rs22 : Tryz.f22.results.toList = [.tmp 2] := by kernel_rfl
theorem rs226 : Tryz.f226.results.toList = [.tmp 2] := by kernel_rfl
theorem rs227 : Tryz.f227.results.toList = [.tmp 4, .tmp 5] := by kernel_rfl
theorem rs228 : Tryz.f228.results.toList = [.tmp 2] := by kernel_rfl
theorem rs229 : Tryz.f229.results.toList = [.tmp 2] := by kernel_rfl
theorem rs230 : Tryz.f230.results.toList = [.tmp 2] := by kernel_rfl
theorem rs231 : Tryz.f231.results.toList = [.tmp 2] := by kernel_rfl
theorem rs232 : Tryz.f232.results.toList = [.tmp 4] := by kernel_rfl
theorem rs233 : Tryz.f233.results.toList = [.tmp 2] := by kernel_rfl
theorem rs25 : Tryz.f25.results.toList = [.tmp 2] := by kernel_rfl
theorem rs26 : Tryz.f26.results.toList = [.tmp 6] := by kernel_rfl
theorem rs27 : Tryz.f27.results.toList = [.tmp 2] := by kernel_rfl
theorem rs271 : Tryz.f271.results.toList = [.tmp 4] := by kernel_rfl
theorem rs272 : Tryz.f272.results.toList = [.tmp 4, .tmp 5] := by kernel_rfl
theorem rs273 : Tryz.f273.results.toList = [.tmp 1] := by kernel_rfl
theorem rs274 : Tryz.f274.results.toList = [.tmp 1] := by kernel_rfl
theorem rs28 : Tryz.f28.results.toList = [] := by kernel_rfl
theorem rs29 : Tryz.f29.results.toList = [.cell 4 42, .tmp 5] := by kernel_rfl
theorem rs30 : Tryz.f30.results.toList = [.cell 6 42] := by kernel_rfl
theorem rs31 : Tryz.f31.results.toList = [.tmp 4] := by kernel_rfl
theorem rs37 : Tryz.f37.results.toList = [.cell 4 38] := by kernel_rfl
theorem rs38 : Tryz.f38.results.toList = [.cell 2 27, .tmp 3] := by kernel_rfl
theorem rs39 : Tryz.f39.results.toList = [.cell 4 52] := by kernel_rfl
theorem rs4 : Tryz.f4.results.toList = [.tmp 4] := by kernel_rfl
theorem rs40 : Tryz.f40.results.toList = [.tmp 6, .tmp 7] := by kernel_rfl
theorem rs41 : Tryz.f41.results.toList = [.tmp 2] := by kernel_rfl
theorem rs42 : Tryz.f42.results.toList = [.cell 2 62] := by kernel_rfl
theorem rs44 : Tryz.f44.results.toList = [.tmp 2] := by kernel_rfl
theorem rs46 : Tryz.f46.results.toList = [] := by kernel_rfl
theorem rs47 : Tryz.f47.results.toList = [.tmp 2] := by kernel_rfl
theorem rs48 : Tryz.f48.results.toList = [] := by kernel_rfl
theorem rs49 : Tryz.f49.results.toList = [.tmp 2] := by kernel_rfl
theorem rs50 : Tryz.f50.results.toList = [.cell 2 67] := by kernel_rfl
theorem rs51 : Tryz.f51.results.toList = [] := by kernel_rfl
theorem rs53 : Tryz.f53.results.toList = [.tmp 2] := by kernel_rfl
theorem rs54 : Tryz.f54.results.toList = [.tmp 2] := by kernel_rfl
theorem rs55 : Tryz.f55.results.toList = [.tmp 2] := by kernel_rfl
theorem rs58 : Tryz.f58.results.toList = [.tmp 4] := by kernel_rfl
theorem rs59 : Tryz.f59.results.toList = [.tmp 2] := by kernel_rfl
theorem rs60 : Tryz.f60.results.toList = [.tmp 2] := by kernel_rfl
theorem rs61 : Tryz.f61.results.toList = [.cell 4 42, .tmp 5] := by kernel_rfl
theorem rs62 : Tryz.f62.results.toList = [.cell 4 42] := by kernel_rfl
theorem rs63 : Tryz.f63.results.toList = [.tmp 4] := by kernel_rfl
theorem rs64 : Tryz.f64.results.toList = [.tmp 2] := by kernel_rfl
theorem rs65 : Tryz.f65.results.toList = [.tmp 2] := by kernel_rfl
theorem rs66 : Tryz.f66.results.toList = [] := by kernel_rfl
theorem rs67 : Tryz.f67.results.toList = [.tmp 4] := by kernel_rfl
theorem rs68 : Tryz.f68.results.toList = [.cell 2 42] := by kernel_rfl
theorem rs7 : Tryz.f7.results.toList = [.tmp 2] := by kernel_rfl
theorem rs76 : Tryz.f76.results.toList = [.tmp 4] := by kernel_rfl
theorem rs77 : Tryz.f77.results.toList = [.tmp 3] := by kernel_rfl
theorem rs78 : Tryz.f78.results.toList = [.tmp 4] := by kernel_rfl
theorem rs79 : Tryz.f79.results.toList = [.cell 4 38] := by kernel_rfl
theorem rs8 : Tryz.f8.results.toList = [.tmp 2] := by kernel_rfl
theorem rs80 : Tryz.f80.results.toList = [.tmp 4] := by kernel_rfl
theorem rs81 : Tryz.f81.results.toList = [.tmp 2] := by kernel_rfl
theorem rs82 : Tryz.f82.results.toList = [.tmp 4] := by kernel_rfl
theorem rs83 : Tryz.f83.results.toList = [.tmp 4, .tmp 5] := by kernel_rfl
theorem rs84 : Tryz.f84.results.toList = [.tmp 4, .tmp 5] := by kernel_rfl
theorem rs85 : Tryz.f85.results.toList = [.tmp 4, .tmp 5] := by kernel_rfl
theorem rs86 : Tryz.f86.results.toList = [.tmp 2] := by kernel_rfl
theorem rs87 : Tryz.f87.results.toList = [.tmp 2] := by kernel_rfl
theorem rs9 : Tryz.f9.results.toList = [.tmp 2] := by kernel_rfl
theorem rs93 : Tryz.f93.results.toList = [.cell 4 199, .tmp 5] := by kernel_rfl
theorem rs94 : Tryz.f94.results.toList = [.tmp 4] := by kernel_rfl
theorem rs95 : Tryz.f95.results.toList = [.tmp 2] := by kernel_rfl
theorem rs96 : Tryz.f96.results.toList = [.cell 2 27] := by kernel_rfl
theorem rs97 : Tryz.f97.results.toList = [.tmp 6] := by kernel_rfl
theorem rs98 : Tryz.f98.results.toList = [.cell 2 48] := by kernel_rfl
theorem rs99 : Tryz.f99.results.toList = [.tmp 6] := by kernel_rfl
theorem tk100 : tk Tryz.prog 100 = some (false, 1, (.pointer none)) := by kernel_rfl
theorem tk104 : tk Tryz.prog 104 = some (true, 2, (.agg #[(.string ⟨#[]⟩), (.string ⟨#[]⟩)])) := by kernel_rfl
theorem tk112 : tk Tryz.prog 112 = some (false, 1, (.slice none 0 0)) := by kernel_rfl
theorem tk116 : tk Tryz.prog 116 = some (true, 2, (.agg #[(.string ⟨#[]⟩), (.string ⟨#[]⟩)])) := by kernel_rfl
theorem tk119 : tk Tryz.prog 119 = some (true, 7, (.agg #[(.int .i64 (0)), (.int .i64 (0)), (.int .i64 (0)), (.int .i64 (0)), (.string ⟨#[]⟩), (.int .i64 (0)), (.slice none 0 0)])) := by kernel_rfl
theorem tk121 : tk Tryz.prog 121 = some (false, 1, (.pointer none)) := by kernel_rfl
theorem tk133 : tk Tryz.prog 133 = some (false, 1, (.pointer none)) := by kernel_rfl
theorem tk134 : tk Tryz.prog 134 = some (false, 1, (.slice none 0 0)) := by kernel_rfl
theorem tk136 : tk Tryz.prog 136 = some (true, 2, (.agg #[(.pointer none), (.slice none 0 0)])) := by kernel_rfl
theorem tk144 : tk Tryz.prog 144 = some (true, 2, (.agg #[(.int .i64 (0)), (.int .i64 (0))])) := by kernel_rfl
theorem tk145 : tk Tryz.prog 145 = some (false, 1, (.pointer none)) := by kernel_rfl
theorem tk146 : tk Tryz.prog 146 = some (false, 1, (.slice none 0 0)) := by kernel_rfl
theorem tk153 : tk Tryz.prog 153 = some (false, 1, .nilFunc) := by kernel_rfl
theorem tk157 : tk Tryz.prog 157 = some (false, 1, (.slice none 0 0)) := by kernel_rfl
theorem tk159 : tk Tryz.prog 159 = some (true, 2, (.agg #[(.slice none 0 0), (.int .i64 (0))])) := by kernel_rfl
theorem tk161 : tk Tryz.prog 161 = some (true, 8, (.agg #[(.int .i64 (0)), (.int .i64 (0)), (.int .i64 (0)), (.string ⟨#[]⟩), (.string ⟨#[]⟩), (.string ⟨#[]⟩), (.slice none 0 0), (.string ⟨#[]⟩)])) := by kernel_rfl
theorem tk199 : tk Tryz.prog 199 = some (true, 3, (.agg #[(.int .i64 (0)), (.string ⟨#[]⟩), (.int .i64 (0))])) := by kernel_rfl
theorem tk2 : tk Tryz.prog 2 = some (false, 1, (.int .i64 (0))) := by kernel_rfl
theorem tk21 : tk Tryz.prog 21 = some (false, 1, (.int .i32 (0))) := by kernel_rfl
theorem tk211 : tk Tryz.prog 211 = some (false, 1, (.pointer none)) := by kernel_rfl
theorem tk22 : tk Tryz.prog 22 = some (false, 1, (.slice none 0 0)) := by kernel_rfl
theorem tk23 : tk Tryz.prog 23 = some (false, 1, (.slice none 0 0)) := by kernel_rfl
theorem tk24 : tk Tryz.prog 24 = some (false, 1, (.slice none 0 0)) := by kernel_rfl
theorem tk25 : tk Tryz.prog 25 = some (false, 1, (.slice none 0 0)) := by kernel_rfl
theorem tk268 : tk Tryz.prog 268 = some (false, 1, (.pointer none)) := by kernel_rfl
theorem tk27 : tk Tryz.prog 27 = some (true, 4, (.agg #[(.slice none 0 0), (.slice none 0 0), (.slice none 0 0), (.int .i64 (0))])) := by kernel_rfl
theorem tk278 : tk Tryz.prog 278 = some (true, 3, (.agg #[(.slice none 0 0), (.int .i64 (0)), (.bool false)])) := by kernel_rfl
theorem tk29 : tk Tryz.prog 29 = some (true, 3, (.agg #[(.int .i64 (0)), (.int .i64 (0)), (.string ⟨#[]⟩)])) := by kernel_rfl
theorem tk3 : tk Tryz.prog 3 = some (false, 1, (.int .i64 (0))) := by kernel_rfl
theorem tk303 : tk Tryz.prog 303 = some (false, 1, (.slice none 0 0)) := by kernel_rfl
theorem tk31 : tk Tryz.prog 31 = some (true, 7, (.agg #[(.int .i64 (0)), (.int .i64 (0)), (.int .i64 (0)), (.string ⟨#[]⟩), (.string ⟨#[]⟩), (.string ⟨#[]⟩), (.slice none 0 0)])) := by kernel_rfl
theorem tk32 : tk Tryz.prog 32 = some (false, 1, (.int .i64 (0))) := by kernel_rfl
theorem tk325 : tk Tryz.prog 325 = some (false, 1, .nilFunc) := by kernel_rfl
theorem tk353 : tk Tryz.prog 353 = some (true, 2, (.agg #[(.slice none 0 0), (.slice none 0 0)])) := by kernel_rfl
theorem tk36 : tk Tryz.prog 36 = some (false, 1, (.slice none 0 0)) := by kernel_rfl
theorem tk38 : tk Tryz.prog 38 = some (true, 6, (.agg #[(.int .i64 (0)), (.int .i64 (0)), (.int .i64 (0)), (.string ⟨#[]⟩), (.int .i64 (0)), (.slice none 0 0)])) := by kernel_rfl
theorem tk388 : tk Tryz.prog 388 = some (true, 2, (.agg #[(.int .i64 (0)), (.int .i64 (0))])) := by kernel_rfl
theorem tk39 : tk Tryz.prog 39 = some (false, 1, (.slice none 0 0)) := by kernel_rfl
theorem tk4 : tk Tryz.prog 4 = some (false, 1, (.bool false)) := by kernel_rfl
theorem tk40 : tk Tryz.prog 40 = some (false, 1, (.slice none 0 0)) := by kernel_rfl
theorem tk42 : tk Tryz.prog 42 = some (true, 11, (.agg #[(.int .i64 (0)), (.int .i64 (0)), (.int .i64 (0)), (.int .i64 (0)), (.int .i64 (0)), (.string ⟨#[]⟩), (.int .i64 (0)), (.slice none 0 0), (.slice none 0 0), (.slice none 0 0), (.slice none 0 0)])) := by kernel_rfl
theorem tk43 : tk Tryz.prog 43 = some (false, 1, (.slice none 0 0)) := by kernel_rfl
theorem tk48 : tk Tryz.prog 48 = some (true, 2, (.agg #[(.string ⟨#[]⟩), (.int .i64 (0))])) := by kernel_rfl
theorem tk5 : tk Tryz.prog 5 = some (false, 1, (.int .u8 (0))) := by kernel_rfl
theorem tk52 : tk Tryz.prog 52 = some (true, 14, (.agg #[(.string ⟨#[]⟩), (.slice none 0 0), (.bool false), (.int .i64 (0)), (.int .i64 (0)), (.int .i64 (0)), (.int .i64 (0)), (.int .i64 (0)), (.string ⟨#[]⟩), (.int .i64 (0)), (.slice none 0 0), (.slice none 0 0), (.slice none 0 0), (.slice none 0 0)])) := by kernel_rfl
theorem tk58 : tk Tryz.prog 58 = some (false, 1, (.slice none 0 0)) := by kernel_rfl
theorem tk62 : tk Tryz.prog 62 = some (true, 2, (.agg #[(.int .i64 (0)), (.int .i64 (0))])) := by kernel_rfl
theorem tk65 : tk Tryz.prog 65 = some (false, 1, (.slice none 0 0)) := by kernel_rfl
theorem tk67 : tk Tryz.prog 67 = some (true, 16, (.agg #[(.int .i64 (0)), (.string ⟨#[]⟩), (.slice none 0 0), (.slice none 0 0), (.slice none 0 0), (.slice none 0 0), (.int .i64 (0)), (.slice none 0 0), (.bool false), (.int .i64 (0)), (.int .i64 (0)), (.int .i64 (0)), (.string ⟨#[]⟩), (.string ⟨#[]⟩), (.string ⟨#[]⟩), (.slice none 0 0)])) := by kernel_rfl
theorem tk68 : tk Tryz.prog 68 = some (false, 1, (.slice none 0 0)) := by kernel_rfl
theorem tk75 : tk Tryz.prog 75 = some (true, 10, (.agg #[(.int .i64 (0)), (.string ⟨#[]⟩), (.string ⟨#[]⟩), (.int .i64 (0)), (.int .i64 (0)), (.int .i64 (0)), (.string ⟨#[]⟩), (.string ⟨#[]⟩), (.string ⟨#[]⟩), (.slice none 0 0)])) := by kernel_rfl
theorem tk76 : tk Tryz.prog 76 = some (false, 1, (.slice none 0 0)) := by kernel_rfl
theorem tk77 : tk Tryz.prog 77 = some (false, 1, (.slice none 0 0)) := by kernel_rfl
theorem tk79 : tk Tryz.prog 79 = some (true, 21, (.agg #[(.bool false), (.bool false), (.slice none 0 0), (.slice none 0 0), (.bool false), (.bool false), (.int .i64 (0)), (.int .i64 (0)), (.int .i64 (0)), (.string ⟨#[]⟩), (.string ⟨#[]⟩), (.string ⟨#[]⟩), (.slice none 0 0), (.int .i64 (0)), (.int .i64 (0)), (.int .i64 (0)), (.string ⟨#[]⟩), (.string ⟨#[]⟩), (.string ⟨#[]⟩), (.slice none 0 0), (.slice none 0 0)])) := by kernel_rfl
theorem tk80 : tk Tryz.prog 80 = some (false, 1, (.slice none 0 0)) := by kernel_rfl
theorem tk89 : tk Tryz.prog 89 = some (true, 1, (.agg #[(.int .i64 (0))])) := by kernel_rfl
theorem tk9 : tk Tryz.prog 9 = some (false, 1, (.string ⟨#[]⟩)) := by kernel_rfl
theorem tk93 : tk Tryz.prog 93 = some (false, 1, (.slice none 0 0)) := by kernel_rfl
theorem tk96 : tk Tryz.prog 96 = some (false, 1, (.pointer none)) := by kernel_rfl
theorem tk98 : tk Tryz.prog 98 = some (false, 1, (.pointer none)) := by kernel_rfl
theorem tk99 : tk Tryz.prog 99 = some (false, 1, (.slice none 0 0)) := by kernel_rfl
def dr3 : List (Nat × Sched) := [(10, .take 0 <| .take 1 <| .take 2 <| .take 4 <| .take 5 <| .take 6 <| .take 3 <| .take 7 <| .take 8 <| .done), (15, .take 0 <| .take 1 <| .take 2 <| .take 3 <| .eff 4 false (.take 5 <| .take 6 <| .take 7 <| .eff 8 false (.eff 9 true (.take 10 <| .done) <| .no) <| .no) <| .eff 8 false (.eff 4 true (.take 5 <| .take 6 <| .take 7 <| .eff 9 true (.take 10 <| .done) <| .no) <| .no) <| .no), (16, .take 0 <| .take 1 <| .take 2 <| .take 3 <| .eff 4 false (.take 5 <| .take 6 <| .take 7 <| .eff 8 false (.eff 9 true (.take 10 <| .done) <| .no) <| .no) <| .eff 8 false (.eff 4 true (.take 5 <| .take 6 <| .take 7 <| .eff 9 true (.take 10 <| .done) <| .no) <| .no) <| .no)]
def dr4 : List (Nat × Sched) := [(8, .take 0 <| .take 2 <| .eff 1 false (.eff 3 true (.take 4 <| .take 5 <| .take 6 <| .take 7 <| .take 8 <| .done) <| .no) <| .no), (14, .take 0 <| .take 1 <| .take 2 <| .take 3 <| .take 5 <| .take 6 <| .take 7 <| .take 4 <| .take 8 <| .take 9 <| .done)]
def dr5 : List (Nat × Sched) := [(13, .take 0 <| .take 1 <| .take 2 <| .take 3 <| .take 4 <| .take 5 <| .take 6 <| .take 7 <| .take 9 <| .eff 8 false (.eff 10 false (.eff 11 false (.take 12 <| .take 13 <| .take 14 <| .done) <| .no) <| .no) <| .no)]
def dr6 : List (Nat × Sched) := [(14, .take 1 <| .take 3 <| .take 4 <| .take 5 <| .take 6 <| .eff 0 false (.eff 2 false (.eff 7 false (.eff 8 false (.take 9 <| .done) <| .no) <| .no) <| .eff 7 false (.eff 2 false (.eff 8 false (.take 9 <| .done) <| .no) <| .no) <| .no) <| .eff 7 false (.eff 0 false (.eff 2 false (.eff 8 false (.take 9 <| .done) <| .no) <| .no) <| .no) <| .no), (19, .take 0 <| .take 3 <| .take 2 <| .eff 1 false (.eff 4 true (.take 5 <| .take 6 <| .take 7 <| .take 8 <| .take 9 <| .done) <| .no) <| .no), (20, .take 0 <| .take 3 <| .take 2 <| .eff 1 false (.eff 4 true (.take 5 <| .take 6 <| .take 7 <| .take 8 <| .take 9 <| .done) <| .no) <| .no)]
def dr7 : List (Nat × Sched) := []
def dr8 : List (Nat × Sched) := []
def dr9 : List (Nat × Sched) := [(18, .take 0 <| .take 1 <| .take 2 <| .take 4 <| .take 6 <| .take 3 <| .take 5 <| .take 7 <| .take 8 <| .take 9 <| .take 10 <| .done)]
def dr10 : List (Nat × Sched) := [(10, .take 0 <| .take 2 <| .take 3 <| .take 1 <| .take 4 <| .take 5 <| .take 6 <| .take 7 <| .eff 8 false (.eff 9 true (.done) <| .no) <| .no), (19, .take 0 <| .take 2 <| .take 3 <| .take 1 <| .take 4 <| .take 6 <| .eff 5 false (.eff 7 false (.take 8 <| .eff 9 true (.done) <| .no) <| .no) <| .eff 7 false (.eff 5 false (.take 8 <| .eff 9 true (.done) <| .no) <| .no) <| .no), (20, .take 0 <| .take 2 <| .eff 1 false (.eff 3 true (.take 4 <| .take 5 <| .take 6 <| .take 7 <| .eff 8 true (.done) <| .no) <| .no) <| .no), (22, .take 0 <| .take 1 <| .eff 2 false (.eff 3 false (.eff 4 true (.done) <| .no) <| .no) <| .no), (26, .take 1 <| .take 2 <| .take 3 <| .take 5 <| .take 0 <| .take 4 <| .take 6 <| .eff 7 false (.eff 8 false (.eff 9 true (.done) <| .no) <| .no) <| .no), (28, .take 0 <| .take 1 <| .eff 2 false (.eff 3 true (.eff 4 true (.done) <| .no) <| .no) <| .no)]
def dr11 : List (Nat × Sched) := [(11, .take 0 <| .take 3 <| .eff 1 false (.eff 2 false (.eff 4 false (.eff 5 false (.eff 6 false (.eff 7 false (.eff 8 false (.eff 9 false (.eff 10 true (.done) <| .no) <| .no) <| .no) <| .no) <| .no) <| .no) <| .no) <| .eff 4 false (.eff 2 false (.eff 5 false (.eff 6 false (.eff 7 false (.eff 8 false (.eff 9 false (.eff 10 true (.done) <| .no) <| .no) <| .no) <| .no) <| .no) <| .no) <| .no) <| .no) <| .eff 4 false (.eff 1 false (.eff 2 false (.eff 5 false (.eff 6 false (.eff 7 false (.eff 8 false (.eff 9 false (.eff 10 true (.done) <| .no) <| .no) <| .no) <| .no) <| .no) <| .no) <| .no) <| .no) <| .no), (31, .take 0 <| .take 2 <| .take 3 <| .take 1 <| .take 4 <| .eff 5 false (.eff 6 false (.eff 7 false (.take 8 <| .eff 9 true (.done) <| .no) <| .no) <| .no) <| .no), (35, .take 0 <| .take 1 <| .take 2 <| .take 3 <| .take 4 <| .eff 5 false (.take 6 <| .take 7 <| .done) <| .no), (36, .take 0 <| .take 2 <| .eff 1 false (.eff 3 true (.take 4 <| .take 5 <| .take 6 <| .take 7 <| .take 8 <| .done) <| .no) <| .no)]
def dr12 : List (Nat × Sched) := [(11, .take 0 <| .take 2 <| .take 5 <| .take 7 <| .take 1 <| .take 3 <| .take 4 <| .take 6 <| .take 8 <| .take 9 <| .eff 10 false (.take 11 <| .done) <| .no), (20, .take 0 <| .take 2 <| .take 6 <| .take 8 <| .take 1 <| .take 3 <| .take 4 <| .take 5 <| .take 7 <| .take 9 <| .take 10 <| .take 11 <| .take 12 <| .take 13 <| .take 14 <| .take 16 <| .take 15 <| .take 17 <| .take 18 <| .take 19 <| .take 20 <| .take 21 <| .take 22 <| .take 24 <| .take 28 <| .take 30 <| .take 23 <| .take 25 <| .take 26 <| .take 27 <| .take 29 <| .take 31 <| .take 32 <| .take 33 <| .eff 34 false (.take 35 <| .take 36 <| .take 37 <| .done) <| .no), (26, .take 0 <| .take 2 <| .take 5 <| .take 7 <| .take 1 <| .take 3 <| .take 4 <| .take 6 <| .take 8 <| .take 9 <| .eff 10 false (.take 11 <| .done) <| .no)]
def dr13 : List (Nat × Sched) := [(6, .take 0 <| .take 1 <| .take 2 <| .take 3 <| .take 5 <| .take 7 <| .take 4 <| .take 6 <| .take 8 <| .take 9 <| .eff 10 false (.eff 11 false (.take 12 <| .take 13 <| .eff 14 true (.done) <| .no) <| .no) <| .no)]
def dr14 : List (Nat × Sched) := [(6, .take 0 <| .take 1 <| .take 2 <| .take 3 <| .take 5 <| .take 7 <| .take 4 <| .take 6 <| .take 8 <| .take 9 <| .eff 10 false (.eff 11 false (.take 12 <| .take 13 <| .eff 14 true (.done) <| .no) <| .no) <| .no), (10, .take 0 <| .take 1 <| .take 2 <| .take 3 <| .take 4 <| .eff 5 false (.take 6 <| .done) <| .no)]
def dr15 : List (Nat × Sched) := [(6, .take 0 <| .take 2 <| .take 5 <| .take 7 <| .take 1 <| .take 3 <| .take 4 <| .take 6 <| .take 8 <| .take 9 <| .eff 10 false (.take 11 <| .done) <| .no)]
def dr16 : List (Nat × Sched) := [(2, .take 3 <| .eff 0 false (.eff 1 false (.eff 2 false (.eff 4 false (.take 5 <| .take 6 <| .take 7 <| .take 8 <| .eff 9 false (.eff 10 true (.take 11 <| .take 12 <| .done) <| .no) <| .no) <| .eff 9 false (.eff 4 true (.take 5 <| .take 6 <| .take 7 <| .take 8 <| .eff 10 true (.take 11 <| .take 12 <| .done) <| .no) <| .no) <| .no) <| .eff 9 false (.eff 2 false (.eff 4 true (.take 5 <| .take 6 <| .take 7 <| .take 8 <| .eff 10 true (.take 11 <| .take 12 <| .done) <| .no) <| .no) <| .no) <| .no) <| .eff 9 false (.eff 1 false (.eff 2 false (.eff 4 true (.take 5 <| .take 6 <| .take 7 <| .take 8 <| .eff 10 true (.take 11 <| .take 12 <| .done) <| .no) <| .no) <| .no) <| .no) <| .no) <| .eff 9 false (.eff 0 false (.eff 1 false (.eff 2 false (.eff 4 true (.take 5 <| .take 6 <| .take 7 <| .take 8 <| .eff 10 true (.take 11 <| .take 12 <| .done) <| .no) <| .no) <| .no) <| .no) <| .no) <| .no)]
def dr17 : List (Nat × Sched) := []
def dr18 : List (Nat × Sched) := []
def dr19 : List (Nat × Sched) := [(3, .take 1 <| .take 0 <| .eff 2 true (.done) <| .no)]
def dr20 : List (Nat × Sched) := [(6, .take 1 <| .take 0 <| .eff 2 false (.eff 3 false (.eff 4 true (.eff 5 true (.done) <| .no) <| .no) <| .no) <| .no), (10, .take 0 <| .take 1 <| .take 2 <| .eff 3 false (.eff 4 true (.done) <| .no) <| .no), (11, .take 0 <| .take 1 <| .eff 2 false (.eff 3 true (.done) <| .no) <| .no)]
def dr21 : List (Nat × Sched) := [(8, .take 0 <| .take 1 <| .take 2 <| .take 3 <| .eff 4 false (.eff 5 false (.eff 6 false (.take 7 <| .eff 8 true (.done) <| .no) <| .no) <| .no) <| .no), (13, .take 0 <| .take 2 <| .take 5 <| .take 1 <| .take 3 <| .take 4 <| .take 6 <| .eff 7 false (.take 8 <| .eff 9 false (.eff 10 false (.take 11 <| .eff 12 true (.done) <| .no) <| .no) <| .no) <| .no), (18, .take 0 <| .take 1 <| .take 2 <| .eff 3 false (.eff 4 false (.eff 5 false (.take 6 <| .eff 7 true (.done) <| .no) <| .no) <| .no) <| .no)]
def dr22 : List (Nat × Sched) := []
def dr23 : List (Nat × Sched) := []
def dr24 : List (Nat × Sched) := [(6, .take 0 <| .take 1 <| .take 2 <| .take 3 <| .take 5 <| .take 6 <| .take 7 <| .take 8 <| .take 4 <| .take 9 <| .take 10 <| .take 11 <| .take 12 <| .take 13 <| .take 14 <| .take 15 <| .take 18 <| .take 19 <| .take 20 <| .take 21 <| .take 16 <| .take 17 <| .take 22 <| .take 23 <| .take 24 <| .take 25 <| .done), (11, .take 0 <| .take 1 <| .take 2 <| .take 3 <| .take 5 <| .take 8 <| .take 9 <| .take 10 <| .take 11 <| .take 13 <| .take 4 <| .take 6 <| .take 7 <| .take 12 <| .take 14 <| .take 15 <| .take 16 <| .done)]
def dr25 : List (Nat × Sched) := []
def dr26 : List (Nat × Sched) := []
def dr27 : List (Nat × Sched) := []
def dr28 : List (Nat × Sched) := [(7, .take 0 <| .take 1 <| .take 2 <| .eff 3 false (.eff 4 false (.eff 5 true (.done) <| .no) <| .no) <| .no)]
def dr29 : List (Nat × Sched) := [(3, .take 0 <| .take 1 <| .take 2 <| .take 3 <| .take 5 <| .eff 4 false (.eff 6 true (.eff 7 true (.done) <| .no) <| .no) <| .no), (29, .take 0 <| .take 2 <| .take 3 <| .take 4 <| .take 5 <| .take 7 <| .take 1 <| .take 6 <| .take 8 <| .take 9 <| .eff 10 false (.eff 11 false (.eff 12 false (.take 13 <| .eff 14 true (.done) <| .no) <| .no) <| .no) <| .no)]
def dr30 : List (Nat × Sched) := [(7, .take 0 <| .take 2 <| .eff 1 false (.eff 3 true (.eff 4 true (.eff 5 true (.done) <| .no) <| .no) <| .no) <| .no)]
def dr31 : List (Nat × Sched) := []
def dr32 : List (Nat × Sched) := [(27, .take 0 <| .take 2 <| .take 3 <| .take 1 <| .take 4 <| .eff 5 false (.eff 6 false (.eff 7 false (.take 8 <| .eff 9 true (.done) <| .no) <| .no) <| .no) <| .no), (34, .take 0 <| .take 2 <| .take 3 <| .take 4 <| .take 1 <| .take 5 <| .eff 6 false (.eff 7 false (.eff 8 false (.take 9 <| .eff 10 true (.done) <| .no) <| .no) <| .no) <| .no)]
def dr33 : List (Nat × Sched) := []
def dr34 : List (Nat × Sched) := [(22, .take 0 <| .take 1 <| .take 2 <| .take 3 <| .take 4 <| .take 5 <| .eff 6 false (.eff 7 false (.take 8 <| .take 9 <| .eff 10 true (.done) <| .no) <| .no) <| .no), (23, .take 0 <| .take 1 <| .take 2 <| .take 5 <| .take 6 <| .take 7 <| .take 3 <| .take 4 <| .take 8 <| .take 9 <| .take 10 <| .take 11 <| .take 12 <| .eff 13 true (.done) <| .no), (25, .take 0 <| .take 1 <| .take 2 <| .take 3 <| .take 4 <| .eff 5 true (.take 6 <| .eff 7 true (.done) <| .no) <| .no), (12, .take 0 <| .take 2 <| .take 3 <| .take 1 <| .take 4 <| .eff 5 false (.eff 6 false (.eff 7 false (.take 8 <| .eff 9 true (.done) <| .no) <| .no) <| .no) <| .no)]
def dr35 : List (Nat × Sched) := []
def dr36 : List (Nat × Sched) := [(7, .take 0 <| .take 1 <| .take 2 <| .eff 3 false (.eff 4 true (.done) <| .no) <| .no)]
def dr37 : List (Nat × Sched) := [(13, .take 4 <| .take 0 <| .take 1 <| .take 2 <| .take 3 <| .take 5 <| .take 6 <| .take 7 <| .take 8 <| .eff 9 false (.take 10 <| .eff 11 true (.done) <| .no) <| .no)]
def dr38 : List (Nat × Sched) := []
def dr39 : List (Nat × Sched) := []
def dr40 : List (Nat × Sched) := [(20, .take 0 <| .take 1 <| .take 2 <| .take 3 <| .take 4 <| .take 5 <| .take 6 <| .take 7 <| .take 8 <| .take 10 <| .take 11 <| .take 12 <| .take 9 <| .take 13 <| .take 14 <| .take 15 <| .take 16 <| .done), (22, .take 0 <| .take 1 <| .take 2 <| .take 4 <| .take 5 <| .take 6 <| .take 3 <| .take 7 <| .take 8 <| .take 9 <| .take 10 <| .take 11 <| .done), (24, .take 0 <| .take 1 <| .take 3 <| .take 4 <| .take 6 <| .take 7 <| .take 8 <| .take 2 <| .take 5 <| .take 9 <| .eff 10 false (.take 11 <| .take 12 <| .done) <| .no), (26, .take 0 <| .take 1 <| .take 3 <| .take 4 <| .take 5 <| .take 2 <| .take 6 <| .eff 7 true (.take 8 <| .take 9 <| .take 10 <| .take 11 <| .done) <| .no), (29, .take 0 <| .take 1 <| .take 3 <| .take 4 <| .take 2 <| .take 5 <| .eff 6 true (.take 7 <| .take 8 <| .take 9 <| .take 10 <| .done) <| .no), (36, .take 0 <| .take 1 <| .take 3 <| .take 4 <| .take 2 <| .take 5 <| .eff 6 false (.eff 7 false (.take 8 <| .done) <| .no) <| .no), (40, .take 0 <| .take 1 <| .take 3 <| .take 4 <| .take 5 <| .take 6 <| .take 2 <| .take 7 <| .eff 8 false (.take 9 <| .take 10 <| .done) <| .no)]
def dr42 : List (Nat × Sched) := []
def dr43 : List (Nat × Sched) := [(8, .take 0 <| .take 1 <| .take 4 <| .take 2 <| .take 5 <| .take 6 <| .effN 3 false (.take 7 <| .take 8 <| .eff 9 false (.eff 10 false (.done) <| .no) <| .no) <| .no)]
def dr46 : List (Nat × Sched) := [(7, .take 0 <| .take 1 <| .eff 2 false (.eff 3 true (.done) <| .no) <| .no)]
def dr47 : List (Nat × Sched) := []
def dr48 : List (Nat × Sched) := []
def dr49 : List (Nat × Sched) := []
def dr50 : List (Nat × Sched) := []
def dr51 : List (Nat × Sched) := []
def dr52 : List (Nat × Sched) := []
def dr53 : List (Nat × Sched) := []
def dr54 : List (Nat × Sched) := []
def dr55 : List (Nat × Sched) := []
def dr56 : List (Nat × Sched) := []
def dr57 : List (Nat × Sched) := []
def dr58 : List (Nat × Sched) := []
def dr59 : List (Nat × Sched) := []
def dr60 : List (Nat × Sched) := []
def dr61 : List (Nat × Sched) := [(19, .take 0 <| .take 1 <| .take 2 <| .take 3 <| .take 5 <| .take 6 <| .take 4 <| .take 7 <| .take 8 <| .eff 9 false (.eff 10 false (.take 11 <| .take 12 <| .eff 13 true (.done) <| .no) <| .no) <| .no), (24, .take 0 <| .take 1 <| .take 2 <| .take 3 <| .take 4 <| .take 6 <| .take 7 <| .eff 5 false (.eff 8 true (.take 9 <| .eff 10 true (.done) <| .no) <| .no) <| .eff 8 false (.eff 5 false (.take 9 <| .eff 10 true (.done) <| .no) <| .no) <| .no)]
def dr62 : List (Nat × Sched) := []
def dr63 : List (Nat × Sched) := []
def dr64 : List (Nat × Sched) := []
def dr65 : List (Nat × Sched) := []
def dr66 : List (Nat × Sched) := []
def dr67 : List (Nat × Sched) := []
def dr68 : List (Nat × Sched) := []
def dr69 : List (Nat × Sched) := [(28, .take 1 <| .take 2 <| .take 5 <| .take 6 <| .eff 0 false (.take 3 <| .take 4 <| .eff 7 false (.eff 8 false (.eff 9 true (.done) <| .no) <| .no) <| .no) <| .eff 7 false (.eff 0 false (.take 3 <| .take 4 <| .eff 8 false (.eff 9 true (.done) <| .no) <| .no) <| .no) <| .no)]
def dr70 : List (Nat × Sched) := []
def dr71 : List (Nat × Sched) := []
def dr73 : List (Nat × Sched) := [(1, .take 0 <| .take 2 <| .take 1 <| .take 3 <| .take 4 <| .take 5 <| .take 6 <| .take 9 <| .take 7 <| .take 8 <| .take 10 <| .take 11 <| .take 12 <| .take 13 <| .take 14 <| .take 15 <| .take 16 <| .take 17 <| .take 18 <| .take 19 <| .take 22 <| .take 20 <| .take 23 <| .eff 21 false (.eff 24 false (.take 25 <| .take 26 <| .take 27 <| .take 28 <| .take 29 <| .take 30 <| .take 31 <| .take 32 <| .take 33 <| .take 35 <| .take 34 <| .take 36 <| .take 37 <| .take 38 <| .take 39 <| .take 41 <| .take 40 <| .take 42 <| .take 43 <| .take 44 <| .take 45 <| .take 46 <| .done) <| .no) <| .no), (6, .take 0 <| .take 2 <| .take 5 <| .take 7 <| .take 1 <| .take 3 <| .take 4 <| .take 6 <| .take 8 <| .take 9 <| .eff 10 false (.take 11 <| .done) <| .no)]
def dr74 : List (Nat × Sched) := []
def dr75 : List (Nat × Sched) := [(23, .take 0 <| .take 1 <| .take 2 <| .take 3 <| .take 4 <| .take 6 <| .take 7 <| .take 8 <| .take 5 <| .take 9 <| .take 10 <| .take 11 <| .take 12 <| .done), (25, .take 0 <| .take 1 <| .take 2 <| .take 4 <| .take 3 <| .take 5 <| .take 6 <| .take 7 <| .take 8 <| .take 9 <| .done)]
def dr76 : List (Nat × Sched) := []
def dr77 : List (Nat × Sched) := []
def dr78 : List (Nat × Sched) := [(1, .take 0 <| .take 1 <| .take 2 <| .take 4 <| .take 5 <| .take 6 <| .take 3 <| .take 7 <| .take 8 <| .done), (5, .take 0 <| .take 1 <| .take 2 <| .take 5 <| .take 6 <| .take 7 <| .take 3 <| .take 8 <| .eff 4 false (.eff 9 false (.take 10 <| .take 11 <| .done) <| .no) <| .no), (7, .take 0 <| .take 1 <| .take 2 <| .take 4 <| .take 5 <| .take 6 <| .take 3 <| .take 7 <| .take 8 <| .take 9 <| .take 10 <| .take 11 <| .take 12 <| .take 14 <| .take 15 <| .take 16 <| .take 13 <| .take 17 <| .take 18 <| .take 19 <| .take 20 <| .done), (8, .take 0 <| .take 1 <| .take 2 <| .take 4 <| .take 5 <| .take 6 <| .take 3 <| .take 7 <| .eff 8 true (.take 9 <| .done) <| .no)]
def dr79 : List (Nat × Sched) := [(5, .take 0 <| .take 1 <| .take 2 <| .take 4 <| .take 5 <| .take 6 <| .take 3 <| .take 7 <| .take 8 <| .eff 9 false (.take 10 <| .eff 11 true (.done) <| .no) <| .no), (6, .take 0 <| .take 1 <| .take 2 <| .take 4 <| .take 5 <| .take 6 <| .take 3 <| .take 7 <| .take 8 <| .take 9 <| .take 10 <| .eff 11 false (.eff 12 false (.take 13 <| .eff 14 true (.done) <| .no) <| .no) <| .no), (7, .take 0 <| .take 1 <| .take 2 <| .take 5 <| .take 6 <| .take 7 <| .take 3 <| .take 4 <| .take 8 <| .take 9 <| .take 10 <| .take 11 <| .take 12 <| .take 13 <| .take 14 <| .eff 15 true (.done) <| .no)]
def dr80 : List (Nat × Sched) := [(5, .take 0 <| .take 2 <| .take 3 <| .take 4 <| .take 1 <| .take 5 <| .take 6 <| .take 7 <| .take 8 <| .take 9 <| .take 10 <| .take 11 <| .take 12 <| .take 13 <| .take 14 <| .take 16 <| .take 17 <| .take 18 <| .take 15 <| .take 19 <| .take 20 <| .take 21 <| .take 22 <| .done)]
def dr81 : List (Nat × Sched) := []
def dr82 : List (Nat × Sched) := []
def dr83 : List (Nat × Sched) := []
def dr84 : List (Nat × Sched) := []
def dr85 : List (Nat × Sched) := [(1, .take 0 <| .take 1 <| .take 2 <| .take 3 <| .take 4 <| .take 5 <| .take 6 <| .take 7 <| .take 8 <| .take 11 <| .take 12 <| .take 13 <| .take 9 <| .take 10 <| .take 14 <| .take 15 <| .take 16 <| .take 17 <| .take 18 <| .done)]
def dr87 : List (Nat × Sched) := []
def dr88 : List (Nat × Sched) := []
def dr89 : List (Nat × Sched) := []
def dr90 : List (Nat × Sched) := []
def dr91 : List (Nat × Sched) := []
def dr93 : List (Nat × Sched) := []
def dr94 : List (Nat × Sched) := []
def dr95 : List (Nat × Sched) := []
def dr96 : List (Nat × Sched) := [(7, .take 0 <| .take 2 <| .take 5 <| .take 7 <| .take 1 <| .take 6 <| .eff 3 false (.eff 4 false (.take 11 <| .eff 8 false (.eff 9 false (.eff 10 false (.eff 12 true (.take 13 <| .eff 14 true (.done) <| .no) <| .no) <| .no) <| .no) <| .no) <| .no) <| .no)]
def dr97 : List (Nat × Sched) := []
def dr98 : List (Nat × Sched) := []
def dr99 : List (Nat × Sched) := []
def dr100 : List (Nat × Sched) := []
def dr101 : List (Nat × Sched) := []
def dr102 : List (Nat × Sched) := []
def dr103 : List (Nat × Sched) := []
def dr104 : List (Nat × Sched) := [(3, .take 0 <| .take 1 <| .take 3 <| .take 4 <| .take 5 <| .take 7 <| .take 8 <| .take 2 <| .take 6 <| .take 9 <| .eff 10 true (.take 11 <| .take 12 <| .take 13 <| .take 14 <| .done) <| .no), (5, .take 0 <| .take 1 <| .take 3 <| .take 4 <| .take 5 <| .take 7 <| .take 8 <| .take 2 <| .take 6 <| .take 9 <| .eff 10 true (.take 11 <| .take 12 <| .take 13 <| .take 14 <| .done) <| .no), (7, .take 0 <| .take 1 <| .take 3 <| .take 4 <| .take 6 <| .take 7 <| .take 8 <| .take 10 <| .take 11 <| .take 13 <| .take 14 <| .take 2 <| .take 5 <| .take 9 <| .take 12 <| .take 15 <| .eff 16 true (.take 17 <| .take 18 <| .take 19 <| .take 20 <| .done) <| .no), (9, .take 0 <| .take 1 <| .take 3 <| .take 4 <| .take 6 <| .take 7 <| .take 8 <| .take 10 <| .take 11 <| .take 13 <| .take 14 <| .take 2 <| .take 5 <| .take 9 <| .take 12 <| .take 15 <| .eff 16 true (.take 17 <| .take 18 <| .take 19 <| .take 20 <| .done) <| .no), (11, .take 0 <| .take 1 <| .take 3 <| .take 4 <| .take 6 <| .take 7 <| .take 8 <| .take 10 <| .take 11 <| .take 13 <| .take 14 <| .take 2 <| .take 5 <| .take 9 <| .take 12 <| .take 15 <| .eff 16 true (.take 17 <| .take 18 <| .take 19 <| .take 20 <| .done) <| .no), (13, .take 0 <| .take 1 <| .take 3 <| .take 4 <| .take 6 <| .take 7 <| .take 8 <| .take 10 <| .take 11 <| .take 13 <| .take 14 <| .take 2 <| .take 5 <| .take 9 <| .take 12 <| .take 15 <| .eff 16 true (.take 17 <| .take 18 <| .take 19 <| .take 20 <| .done) <| .no), (15, .take 0 <| .take 1 <| .take 3 <| .take 4 <| .take 2 <| .take 5 <| .eff 6 true (.take 7 <| .take 8 <| .take 9 <| .take 10 <| .done) <| .no), (17, .take 0 <| .take 1 <| .take 3 <| .take 4 <| .take 2 <| .take 5 <| .eff 6 true (.take 7 <| .take 8 <| .take 9 <| .take 10 <| .done) <| .no), (23, .take 0 <| .take 1 <| .take 3 <| .take 4 <| .take 5 <| .take 7 <| .take 8 <| .take 9 <| .take 11 <| .take 12 <| .take 2 <| .take 6 <| .take 10 <| .take 13 <| .eff 14 true (.take 15 <| .take 16 <| .take 17 <| .take 18 <| .done) <| .no), (24, .take 0 <| .take 1 <| .take 3 <| .take 4 <| .take 5 <| .take 7 <| .take 8 <| .take 9 <| .take 11 <| .take 12 <| .take 2 <| .take 6 <| .take 10 <| .take 13 <| .eff 14 true (.take 15 <| .take 16 <| .take 17 <| .take 18 <| .done) <| .no)]
def dr105 : List (Nat × Sched) := [(6, .take 0 <| .take 2 <| .take 1 <| .take 3 <| .eff 4 false (.take 5 <| .done) <| .no), (8, .take 0 <| .take 1 <| .take 2 <| .take 3 <| .eff 4 false (.take 5 <| .done) <| .no)]
def dr107 : List (Nat × Sched) := []
def dr108 : List (Nat × Sched) := []
def dr109 : List (Nat × Sched) := []
def dr110 : List (Nat × Sched) := []
def dr111 : List (Nat × Sched) := [(6, .take 0 <| .take 2 <| .take 1 <| .take 3 <| .eff 4 false (.take 5 <| .take 6 <| .done) <| .no), (8, .take 0 <| .take 1 <| .take 2 <| .take 3 <| .eff 4 false (.take 5 <| .take 6 <| .done) <| .no)]
def dr113 : List (Nat × Sched) := []
def dr114 : List (Nat × Sched) := []
def dr115 : List (Nat × Sched) := []
def dr116 : List (Nat × Sched) := []
def dr117 : List (Nat × Sched) := [(9, .take 0 <| .take 1 <| .take 2 <| .take 3 <| .take 4 <| .take 5 <| .take 6 <| .take 7 <| .take 8 <| .take 10 <| .take 11 <| .take 12 <| .take 9 <| .take 13 <| .take 14 <| .take 15 <| .done)]
def dr118 : List (Nat × Sched) := []
def dr119 : List (Nat × Sched) := []
def dr120 : List (Nat × Sched) := []
def dr121 : List (Nat × Sched) := []
def dr122 : List (Nat × Sched) := []
def dr123 : List (Nat × Sched) := []
def dr125 : List (Nat × Sched) := [(1, .take 0 <| .take 1 <| .take 2 <| .take 3 <| .take 4 <| .take 5 <| .take 6 <| .take 7 <| .take 8 <| .take 9 <| .take 10 <| .take 11 <| .take 12 <| .take 13 <| .take 14 <| .take 15 <| .take 16 <| .take 17 <| .take 20 <| .take 21 <| .take 22 <| .take 18 <| .take 19 <| .take 23 <| .take 24 <| .take 25 <| .take 26 <| .take 27 <| .take 28 <| .take 29 <| .take 30 <| .take 31 <| .take 32 <| .take 33 <| .take 34 <| .take 35 <| .take 36 <| .take 37 <| .take 38 <| .take 39 <| .take 40 <| .take 41 <| .take 42 <| .take 43 <| .take 44 <| .take 45 <| .take 46 <| .take 47 <| .take 48 <| .take 49 <| .take 50 <| .done)]
def dr126 : List (Nat × Sched) := []
def dr127 : List (Nat × Sched) := []
def dr128 : List (Nat × Sched) := []
def dr131 : List (Nat × Sched) := []
def dr132 : List (Nat × Sched) := []
def dr136 : List (Nat × Sched) := [(11, .take 0 <| .take 1 <| .take 2 <| .take 4 <| .take 7 <| .take 3 <| .take 5 <| .take 6 <| .take 8 <| .done)]
def dr138 : List (Nat × Sched) := []
def dr139 : List (Nat × Sched) := []
def dr140 : List (Nat × Sched) := []
def dr141 : List (Nat × Sched) := []
def dr143 : List (Nat × Sched) := []
def dr144 : List (Nat × Sched) := []
def dr145 : List (Nat × Sched) := [(13, .take 0 <| .take 2 <| .take 3 <| .take 1 <| .eff 4 false (.eff 5 false (.eff 6 true (.take 7 <| .eff 8 true (.done) <| .no) <| .no) <| .no) <| .no)]
def dr146 : List (Nat × Sched) := []
def dr147 : List (Nat × Sched) := []
def dr148 : List (Nat × Sched) := []
def dr149 : List (Nat × Sched) := []
def dr150 : List (Nat × Sched) := []
def dr151 : List (Nat × Sched) := []
def dr152 : List (Nat × Sched) := []
def dr153 : List (Nat × Sched) := [(20, .take 0 <| .take 1 <| .take 2 <| .take 3 <| .take 5 <| .take 8 <| .take 9 <| .take 10 <| .take 4 <| .take 6 <| .take 7 <| .eff 11 false (.eff 12 false (.eff 13 true (.done) <| .no) <| .no) <| .no)]
def dr154 : List (Nat × Sched) := [(11, .take 0 <| .take 1 <| .take 2 <| .take 3 <| .take 4 <| .take 5 <| .take 6 <| .take 7 <| .take 9 <| .take 8 <| .take 10 <| .eff 11 true (.take 12 <| .take 13 <| .take 14 <| .done) <| .no)]
def dr155 : List (Nat × Sched) := [(9, .take 0 <| .take 1 <| .take 2 <| .take 3 <| .take 4 <| .take 6 <| .take 7 <| .take 8 <| .take 5 <| .take 9 <| .take 10 <| .take 11 <| .done)]
def dr156 : List (Nat × Sched) := []
def dr157 : List (Nat × Sched) := [(5, .take 0 <| .take 1 <| .take 2 <| .take 5 <| .take 3 <| .take 6 <| .eff 4 false (.take 7 <| .take 8 <| .eff 9 true (.done) <| .no) <| .no), (13, .take 0 <| .take 1 <| .take 2 <| .take 3 <| .take 4 <| .take 5 <| .take 6 <| .take 7 <| .take 8 <| .take 10 <| .take 9 <| .take 11 <| .eff 12 true (.take 13 <| .take 14 <| .done) <| .no), (15, .take 0 <| .take 2 <| .take 3 <| .take 4 <| .take 5 <| .take 1 <| .take 6 <| .take 7 <| .take 8 <| .eff 9 true (.done) <| .no)]
def dr158 : List (Nat × Sched) := []
def dr159 : List (Nat × Sched) := [(11, .take 0 <| .take 1 <| .take 2 <| .take 5 <| .take 3 <| .take 6 <| .eff 4 false (.take 7 <| .eff 8 false (.eff 9 false (.take 10 <| .done) <| .no) <| .no) <| .no)]
def dr160 : List (Nat × Sched) := []
def dr161 : List (Nat × Sched) := []
def dr162 : List (Nat × Sched) := []
def dr163 : List (Nat × Sched) := []
def dr164 : List (Nat × Sched) := []
def dr165 : List (Nat × Sched) := []
def dr166 : List (Nat × Sched) := []
def dr167 : List (Nat × Sched) := []
def dr168 : List (Nat × Sched) := []
def dr169 : List (Nat × Sched) := []
def dr172 : List (Nat × Sched) := []
def dr173 : List (Nat × Sched) := []
def dr174 : List (Nat × Sched) := [(19, .take 0 <| .take 1 <| .take 2 <| .take 3 <| .take 5 <| .take 6 <| .take 7 <| .take 4 <| .take 8 <| .eff 9 false (.take 10 <| .take 11 <| .done) <| .no), (21, .take 0 <| .take 1 <| .take 2 <| .take 3 <| .take 4 <| .take 5 <| .take 6 <| .take 7 <| .take 8 <| .take 10 <| .take 11 <| .take 12 <| .take 9 <| .take 13 <| .take 14 <| .take 15 <| .take 16 <| .done), (23, .take 0 <| .take 1 <| .take 2 <| .take 4 <| .take 5 <| .take 6 <| .take 3 <| .take 7 <| .take 8 <| .take 9 <| .take 10 <| .take 11 <| .done)]
def dr175 : List (Nat × Sched) := []
def dr176 : List (Nat × Sched) := []
def dr180 : List (Nat × Sched) := []
def dr183 : List (Nat × Sched) := []
def dr184 : List (Nat × Sched) := []
def dr185 : List (Nat × Sched) := []
def dr186 : List (Nat × Sched) := []
def dr187 : List (Nat × Sched) := []
def dr189 : List (Nat × Sched) := []
def dr190 : List (Nat × Sched) := [(12, .take 0 <| .take 2 <| .take 1 <| .eff 3 false (.eff 4 false (.eff 5 true (.take 6 <| .eff 7 true (.done) <| .no) <| .no) <| .no) <| .no), (14, .take 0 <| .take 2 <| .take 1 <| .eff 3 false (.eff 4 false (.eff 5 true (.take 6 <| .eff 7 true (.done) <| .no) <| .no) <| .no) <| .no)]
def dr191 : List (Nat × Sched) := []
def dr193 : List (Nat × Sched) := []
def dr194 : List (Nat × Sched) := []
def dr195 : List (Nat × Sched) := []
def dr196 : List (Nat × Sched) := [(6, .take 1 <| .take 2 <| .take 3 <| .take 0 <| .take 4 <| .eff 5 true (.take 6 <| .done) <| .no)]
def dr197 : List (Nat × Sched) := []
def dr198 : List (Nat × Sched) := []
def dr199 : List (Nat × Sched) := []
def dr200 : List (Nat × Sched) := []
def dr201 : List (Nat × Sched) := []
def dr202 : List (Nat × Sched) := []
def dr203 : List (Nat × Sched) := []
def dr204 : List (Nat × Sched) := []
def dr205 : List (Nat × Sched) := [(6, .take 0 <| .take 1 <| .take 2 <| .take 3 <| .take 4 <| .take 5 <| .take 6 <| .done), (8, .take 0 <| .take 1 <| .take 2 <| .take 3 <| .take 4 <| .take 5 <| .take 6 <| .eff 7 false (.eff 8 true (.done) <| .no) <| .no), (18, .take 8 <| .take 10 <| .take 1 <| .take 2 <| .take 3 <| .take 4 <| .take 5 <| .eff 0 false (.take 6 <| .take 7 <| .eff 9 false (.eff 11 false (.eff 12 false (.eff 13 true (.done) <| .no) <| .no) <| .no) <| .no) <| .eff 9 false (.eff 0 false (.take 6 <| .take 7 <| .eff 11 false (.eff 12 false (.eff 13 true (.done) <| .no) <| .no) <| .no) <| .eff 11 false (.eff 0 false (.take 6 <| .take 7 <| .eff 12 false (.eff 13 true (.done) <| .no) <| .no) <| .no) <| .no) <| .no), (32, .take 4 <| .take 6 <| .take 0 <| .take 1 <| .take 2 <| .take 3 <| .eff 5 false (.eff 7 false (.eff 8 false (.eff 9 true (.done) <| .no) <| .no) <| .no) <| .no)]
def dr206 : List (Nat × Sched) := []
def dr207 : List (Nat × Sched) := [(3, .take 0 <| .take 1 <| .take 6 <| .take 7 <| .take 9 <| .take 10 <| .take 4 <| .eff 2 false (.eff 3 false (.eff 5 false (.eff 8 false (.eff 11 false (.eff 12 false (.eff 13 false (.take 14 <| .done) <| .no) <| .no) <| .no) <| .no) <| .no) <| .no) <| .no)]
def dr208 : List (Nat × Sched) := []
def dr209 : List (Nat × Sched) := []
def dr210 : List (Nat × Sched) := []
def dr211 : List (Nat × Sched) := []
def dr212 : List (Nat × Sched) := []
def dr213 : List (Nat × Sched) := []
def dr214 : List (Nat × Sched) := []
def dr215 : List (Nat × Sched) := []
def dr216 : List (Nat × Sched) := []
def dr217 : List (Nat × Sched) := []
def dr218 : List (Nat × Sched) := [(6, .take 0 <| .take 1 <| .take 2 <| .take 3 <| .take 5 <| .eff 4 false (.eff 6 false (.take 7 <| .eff 8 false (.eff 9 false (.take 10 <| .done) <| .no) <| .no) <| .no) <| .eff 6 false (.eff 4 false (.take 7 <| .eff 8 false (.eff 9 false (.take 10 <| .done) <| .no) <| .no) <| .no) <| .no), (14, .take 0 <| .take 1 <| .take 2 <| .take 3 <| .take 4 <| .take 5 <| .take 6 <| .take 8 <| .take 7 <| .take 9 <| .eff 10 true (.take 11 <| .take 12 <| .done) <| .no), (15, .take 0 <| .take 1 <| .take 2 <| .take 3 <| .take 4 <| .take 5 <| .take 7 <| .take 6 <| .take 8 <| .eff 9 true (.take 10 <| .take 11 <| .eff 12 true (.done) <| .no) <| .no), (28, .take 0 <| .take 1 <| .take 2 <| .take 3 <| .take 4 <| .take 5 <| .eff 6 false (.eff 7 false (.eff 8 false (.take 9 <| .done) <| .no) <| .no) <| .no)]
def dr219 : List (Nat × Sched) := [(1, .take 1 <| .take 5 <| .take 0 <| .take 2 <| .take 4 <| .take 6 <| .eff 3 false (.eff 7 false (.eff 8 false (.take 9 <| .done) <| .no) <| .no) <| .no)]
def dr224 : List (Nat × Sched) := [(28, .take 0 <| .take 1 <| .take 2 <| .take 3 <| .take 4 <| .take 6 <| .take 7 <| .take 8 <| .take 5 <| .take 9 <| .take 10 <| .take 11 <| .take 12 <| .done), (30, .take 0 <| .take 1 <| .take 2 <| .take 4 <| .take 3 <| .take 5 <| .take 6 <| .take 7 <| .eff 8 false (.take 9 <| .done) <| .no), (46, .take 0 <| .take 1 <| .take 3 <| .take 4 <| .take 2 <| .take 5 <| .eff 6 true (.take 7 <| .done) <| .no), (49, .take 0 <| .take 1 <| .take 3 <| .take 4 <| .take 2 <| .take 5 <| .eff 6 true (.take 7 <| .done) <| .no), (21, .take 0 <| .take 1 <| .take 3 <| .take 4 <| .take 2 <| .take 5 <| .eff 6 true (.take 7 <| .take 8 <| .done) <| .no)]
def dr225 : List (Nat × Sched) := []
def dr226 : List (Nat × Sched) := []
def dr227 : List (Nat × Sched) := [(6, .take 0 <| .take 1 <| .take 3 <| .take 4 <| .take 2 <| .take 5 <| .eff 6 true (.take 7 <| .take 8 <| .take 9 <| .take 10 <| .done) <| .no), (12, .take 0 <| .take 1 <| .take 3 <| .take 4 <| .take 2 <| .take 5 <| .eff 6 true (.take 7 <| .take 8 <| .take 9 <| .take 10 <| .take 11 <| .done) <| .no), (2, .take 0 <| .take 1 <| .take 3 <| .take 4 <| .take 2 <| .take 5 <| .eff 6 true (.take 7 <| .take 8 <| .take 9 <| .take 10 <| .take 11 <| .done) <| .no)]
def dr228 : List (Nat × Sched) := []
def dr229 : List (Nat × Sched) := [(1, .take 0 <| .take 1 <| .take 2 <| .take 3 <| .take 4 <| .take 5 <| .take 6 <| .take 7 <| .eff 8 false (.take 9 <| .done) <| .no)]
def dr230 : List (Nat × Sched) := [(1, .take 0 <| .take 1 <| .take 2 <| .take 3 <| .take 4 <| .take 5 <| .take 6 <| .take 7 <| .eff 8 false (.take 9 <| .done) <| .no)]
def dr231 : List (Nat × Sched) := []
def dr232 : List (Nat × Sched) := []
def dr233 : List (Nat × Sched) := []
def dr242 : List (Nat × Sched) := [(1, .take 0 <| .take 2 <| .eff 1 false (.eff 3 false (.eff 4 false (.eff 5 true (.done) <| .no) <| .no) <| .no) <| .no), (2, .take 0 <| .take 2 <| .take 5 <| .take 7 <| .take 10 <| .take 12 <| .take 1 <| .take 3 <| .take 6 <| .take 8 <| .take 11 <| .take 13 <| .eff 4 false (.eff 9 false (.eff 14 false (.eff 15 false (.eff 16 false (.take 17 <| .done) <| .no) <| .no) <| .no) <| .no) <| .no)]
def dr244 : List (Nat × Sched) := []
def dr245 : List (Nat × Sched) := []
def dr246 : List (Nat × Sched) := []
def dr247 : List (Nat × Sched) := [(1, .take 4 <| .take 0 <| .take 1 <| .take 2 <| .take 3 <| .take 5 <| .take 6 <| .eff 7 false (.eff 8 true (.done) <| .no) <| .no)]
def dr248 : List (Nat × Sched) := []
def dr249 : List (Nat × Sched) := [(1, .take 0 <| .take 2 <| .eff 1 false (.eff 3 false (.eff 4 false (.eff 5 false (.eff 6 true (.done) <| .no) <| .no) <| .no) <| .no) <| .no)]
def dr250 : List (Nat × Sched) := [(1, .take 0 <| .take 2 <| .eff 1 false (.eff 3 false (.eff 4 false (.eff 5 false (.eff 6 true (.done) <| .no) <| .no) <| .no) <| .no) <| .no)]
def dr251 : List (Nat × Sched) := [(3, .take 0 <| .take 2 <| .take 1 <| .take 4 <| .take 3 <| .take 5 <| .done)]
def dr252 : List (Nat × Sched) := []
def dr253 : List (Nat × Sched) := []
def dr254 : List (Nat × Sched) := []
def dr255 : List (Nat × Sched) := []
def dr256 : List (Nat × Sched) := [(0, .take 1 <| .take 3 <| .take 8 <| .take 0 <| .take 2 <| .take 4 <| .take 5 <| .take 6 <| .take 7 <| .take 9 <| .take 10 <| .take 11 <| .take 12 <| .take 13 <| .eff 14 false (.eff 15 false (.eff 16 true (.done) <| .no) <| .no) <| .no)]
def dr257 : List (Nat × Sched) := []
def dr258 : List (Nat × Sched) := []
def dr259 : List (Nat × Sched) := []
def dr260 : List (Nat × Sched) := []
def dr261 : List (Nat × Sched) := []
def dr262 : List (Nat × Sched) := []
def dr263 : List (Nat × Sched) := [(10, .take 0 <| .take 1 <| .take 2 <| .take 3 <| .take 4 <| .eff 5 false (.eff 6 false (.eff 7 true (.done) <| .no) <| .no) <| .eff 6 false (.eff 5 true (.eff 7 true (.done) <| .no) <| .no) <| .no)]
def dr269 : List (Nat × Sched) := []
def dr270 : List (Nat × Sched) := []
def dr271 : List (Nat × Sched) := []
def dr272 : List (Nat × Sched) := []
def dr273 : List (Nat × Sched) := []
def dr274 : List (Nat × Sched) := []
def dr291 : List (Nat × Sched) := [(4, .take 0 <| .take 1 <| .take 2 <| .take 3 <| .take 4 <| .take 5 <| .take 6 <| .take 7 <| .take 9 <| .take 10 <| .take 11 <| .take 12 <| .take 8 <| .take 13 <| .eff 14 true (.take 15 <| .take 16 <| .done) <| .no), (6, .take 0 <| .take 1 <| .take 2 <| .take 3 <| .take 4 <| .take 5 <| .take 6 <| .take 7 <| .take 8 <| .take 10 <| .take 11 <| .take 12 <| .take 9 <| .take 13 <| .take 14 <| .eff 15 true (.take 16 <| .eff 17 true (.done) <| .no) <| .no)]
def dr292 : List (Nat × Sched) := [(5, .take 0 <| .take 1 <| .take 2 <| .take 3 <| .take 5 <| .take 6 <| .take 7 <| .take 4 <| .take 8 <| .eff 9 true (.take 10 <| .done) <| .no), (11, .take 0 <| .take 1 <| .take 2 <| .take 3 <| .take 4 <| .take 5 <| .take 6 <| .take 7 <| .take 8 <| .take 10 <| .take 11 <| .take 12 <| .take 9 <| .take 13 <| .take 14 <| .eff 15 true (.take 16 <| .eff 17 true (.done) <| .no) <| .no), (17, .take 0 <| .take 1 <| .take 2 <| .take 3 <| .take 5 <| .take 6 <| .take 7 <| .take 4 <| .take 8 <| .eff 9 true (.take 10 <| .take 11 <| .done) <| .no), (23, .take 0 <| .take 1 <| .take 2 <| .take 3 <| .take 4 <| .take 5 <| .take 6 <| .take 7 <| .take 8 <| .take 10 <| .take 11 <| .take 12 <| .take 9 <| .take 13 <| .take 14 <| .eff 15 true (.take 16 <| .eff 17 true (.done) <| .no) <| .no), (35, .take 0 <| .take 1 <| .take 2 <| .take 3 <| .take 4 <| .take 5 <| .take 7 <| .take 8 <| .take 9 <| .take 6 <| .take 10 <| .eff 11 true (.take 12 <| .take 13 <| .done) <| .no)]
def dr293 : List (Nat × Sched) := []
def dr294 : List (Nat × Sched) := []
def dr295 : List (Nat × Sched) := []
def dr296 : List (Nat × Sched) := []
def dr297 : List (Nat × Sched) := []
def dr298 : List (Nat × Sched) := []
def dr299 : List (Nat × Sched) := []
def dr300 : List (Nat × Sched) := [(1, .take 0 <| .take 1 <| .take 2 <| .take 4 <| .take 5 <| .take 6 <| .take 10 <| .take 11 <| .take 12 <| .take 3 <| .take 7 <| .take 8 <| .take 9 <| .take 15 <| .take 13 <| .take 14 <| .take 16 <| .done)]
def dr314 : List (Nat × Sched) := []
def dr315 : List (Nat × Sched) := []
def dr316 : List (Nat × Sched) := []
def dr317 : List (Nat × Sched) := [(4, .take 0 <| .take 1 <| .take 2 <| .take 3 <| .take 4 <| .take 5 <| .take 6 <| .take 7 <| .take 9 <| .take 10 <| .take 11 <| .take 12 <| .take 8 <| .take 13 <| .eff 14 true (.take 15 <| .take 16 <| .done) <| .no), (6, .take 0 <| .take 1 <| .take 2 <| .take 3 <| .take 4 <| .take 5 <| .take 6 <| .take 7 <| .take 8 <| .take 10 <| .take 11 <| .take 12 <| .take 9 <| .take 13 <| .take 14 <| .eff 15 true (.take 16 <| .eff 17 true (.done) <| .no) <| .no)]
def dr318 : List (Nat × Sched) := [(5, .take 0 <| .take 1 <| .take 2 <| .take 3 <| .take 5 <| .take 6 <| .take 7 <| .take 4 <| .take 8 <| .eff 9 true (.take 10 <| .done) <| .no), (11, .take 0 <| .take 1 <| .take 2 <| .take 3 <| .take 4 <| .take 5 <| .take 6 <| .take 7 <| .take 8 <| .take 10 <| .take 11 <| .take 12 <| .take 9 <| .take 13 <| .take 14 <| .eff 15 true (.take 16 <| .eff 17 true (.done) <| .no) <| .no), (17, .take 0 <| .take 1 <| .take 2 <| .take 3 <| .take 5 <| .take 6 <| .take 7 <| .take 4 <| .take 8 <| .eff 9 true (.take 10 <| .take 11 <| .done) <| .no), (23, .take 0 <| .take 1 <| .take 2 <| .take 3 <| .take 4 <| .take 5 <| .take 6 <| .take 7 <| .take 8 <| .take 10 <| .take 11 <| .take 12 <| .take 9 <| .take 13 <| .take 14 <| .eff 15 true (.take 16 <| .eff 17 true (.done) <| .no) <| .no), (35, .take 0 <| .take 1 <| .take 2 <| .take 3 <| .take 4 <| .take 5 <| .take 7 <| .take 8 <| .take 9 <| .take 6 <| .take 10 <| .eff 11 true (.take 12 <| .take 13 <| .done) <| .no)]
def dr323 : List (Nat × Sched) := [(3, .take 0 <| .take 1 <| .take 2 <| .take 3 <| .take 4 <| .take 5 <| .take 6 <| .take 7 <| .take 8 <| .take 9 <| .take 10 <| .take 11 <| .take 12 <| .take 14 <| .take 15 <| .take 16 <| .take 17 <| .take 18 <| .take 13 <| .take 19 <| .take 20 <| .eff 21 true (.take 22 <| .eff 23 true (.done) <| .no) <| .no)]
def dr324 : List (Nat × Sched) := []
def dr325 : List (Nat × Sched) := [(3, .take 0 <| .take 1 <| .take 2 <| .take 3 <| .take 4 <| .take 5 <| .take 6 <| .take 7 <| .take 8 <| .take 9 <| .take 10 <| .take 11 <| .take 12 <| .take 14 <| .take 15 <| .take 16 <| .take 17 <| .take 18 <| .take 13 <| .take 19 <| .take 20 <| .eff 21 true (.take 22 <| .eff 23 true (.done) <| .no) <| .no)]
def dr41 : List (Nat × Sched) := []
def dr44 : List (Nat × Sched) := []
def dr86 : List (Nat × Sched) := []
def dr124 : List (Nat × Sched) := []
def dr106 : List (Nat × Sched) := []
def dr170 : List (Nat × Sched) := []
def dr192 : List (Nat × Sched) := []
def dr129 : List (Nat × Sched) := []
def dr130 : List (Nat × Sched) := []
def dr177 : List (Nat × Sched) := []
def dr287 : List (Nat × Sched) := []
def dr243 : List (Nat × Sched) := []
def dr288 : List (Nat × Sched) := []
def dr290 : List (Nat × Sched) := []
def dr312 : List (Nat × Sched) := []
def dr142 : List (Nat × Sched) := []
def dr182 : List (Nat × Sched) := []
attribute [go_sem] mx bt102 bt104 bt108 bt114 bt116 bt119 bt127 bt138 bt144 bt149 bt159 bt161 bt181 bt199 bt266 bt27 bt272 bt278 bt29 bt31 bt320 bt353 bt38 bt42 bt48 bt52 bt62 bt67 bt75 bt79 bt89 bt92 cv363_3 cv3_363 cvk133_328 cvk328_133 cvk363_3 cvk3_363 el112 el134 el146 el157 el22 el23 el234 el24 el25 el275 el303 el340 el345 el351 el36 el369 el39 el40 el43 el58 el65 el68 el72 el76 el77 el80 el93 el99 fd29_0 fo102_0 fo102_1 fo102_2 fo102_3 fo104_0 fo104_1 fo108_0 fo114_0 fo114_1 fo114_2 fo114_3 fo116_0 fo116_1 fo119_0 fo119_1 fo127_0 fo127_1 fo136_0 fo136_1 fo138_0 fo144_0 fo149_0 fo149_1 fo149_2 fo159_0 fo159_1 fo161_0 fo161_1 fo181_0 fo181_1 fo199_0 fo199_1 fo199_2 fo266_0 fo266_1 fo272_0 fo278_0 fo278_1 fo278_2 fo27_0 fo27_1 fo27_2 fo27_3 fo29_0 fo29_1 fo29_2 fo31_0 fo31_1 fo31_2 fo31_3 fo31_4 fo320_0 fo320_1 fo353_0 fo353_1 fo388_0 fo388_1 fo38_0 fo38_1 fo38_2 fo38_3 fo42_0 fo42_1 fo42_2 fo42_3 fo42_4 fo42_5 fo48_0 fo48_1 fo52_0 fo52_1 fo52_2 fo52_3 fo62_0 fo67_0 fo67_1 fo67_2 fo67_3 fo67_4 fo67_5 fo67_6 fo75_0 fo75_1 fo75_2 fo75_3 fo79_0 fo79_1 fo79_2 fo79_3 fo79_4 fo79_5 fo79_6 fo79_7 fo79_8 fo89_0 fo92_0 ibl4 isl112 isl134 isl146 isl157 isl22 isl23 isl24 isl25 isl275 isl340 isl351 isl36 isl369 isl39 isl40 isl43 isl58 isl65 isl68 isl72 isl76 isl77 isl80 isl9 isl93 isl99 ist112 ist134 ist146 ist157 ist22 ist23 ist24 ist25 ist275 ist340 ist351 ist36 ist369 ist39 ist40 ist43 ist58 ist65 ist68 ist72 ist76 ist77 ist80 ist9 ist93 ist99 mt216 mt242 okt112 okt134 okt146 okt157 okt22 okt23 okt234 okt24 okt25 okt275 okt340 okt345 okt351 okt36 okt369 okt39 okt40 okt43 okt58 okt65 okt68 okt72 okt76 okt77 okt80 okt93 okt99 row112 row134 row146 row157 row22 row23 row234 row24 row25 row275 row340 row345 row351 row36 row369 row39 row40 row43 row58 row65 row68 row72 row76 row77 row80 row93 row99 tk100 tk104 tk112 tk116 tk119 tk121 tk133 tk134 tk136 tk144 tk145 tk146 tk153 tk157 tk159 tk161 tk199 tk2 tk21 tk211 tk22 tk23 tk24 tk25 tk268 tk27 tk278 tk29 tk3 tk303 tk31 tk32 tk325 tk353 tk36 tk38 tk388 tk39 tk4 tk40 tk42 tk43 tk48 tk5 tk52 tk58 tk62 tk65 tk67 tk68 tk75 tk76 tk77 tk79 tk80 tk89 tk9 tk93 tk96 tk98 tk99 dr3 dr4 dr5 dr6 dr7 dr8 dr9 dr10 dr11 dr12 dr13 dr14 dr15 dr16 dr17 dr18 dr19 dr20 dr21 dr22 dr23 dr24 dr25 dr26 dr27 dr28 dr29 dr30 dr31 dr32 dr33 dr34 dr35 dr36 dr37 dr38 dr39 dr40 dr42 dr43 dr46 dr47 dr48 dr49 dr50 dr51 dr52 dr53 dr54 dr55 dr56 dr57 dr58 dr59 dr60 dr61 dr62 dr63 dr64 dr65 dr66 dr67 dr68 dr69 dr70 dr71 dr73 dr74 dr75 dr76 dr77 dr78 dr79 dr80 dr81 dr82 dr83 dr84 dr85 dr87 dr88 dr89 dr90 dr91 dr93 dr94 dr95 dr96 dr97 dr98 dr99 dr100 dr101 dr102 dr103 dr104 dr105 dr107 dr108 dr109 dr110 dr111 dr113 dr114 dr115 dr116 dr117 dr118 dr119 dr120 dr121 dr122 dr123 dr125 dr126 dr127 dr128 dr131 dr132 dr136 dr138 dr139 dr140 dr141 dr143 dr144 dr145 dr146 dr147 dr148 dr149 dr150 dr151 dr152 dr153 dr154 dr155 dr156 dr157 dr158 dr159 dr160 dr161 dr162 dr163 dr164 dr165 dr166 dr167 dr168 dr169 dr172 dr173 dr174 dr175 dr176 dr180 dr183 dr184 dr185 dr186 dr187 dr189 dr190 dr191 dr193 dr194 dr195 dr196 dr197 dr198 dr199 dr200 dr201 dr202 dr203 dr204 dr205 dr206 dr207 dr208 dr209 dr210 dr211 dr212 dr213 dr214 dr215 dr216 dr217 dr218 dr219 dr224 dr225 dr226 dr227 dr228 dr229 dr230 dr231 dr232 dr233 dr242 dr244 dr245 dr246 dr247 dr248 dr249 dr250 dr251 dr252 dr253 dr254 dr255 dr256 dr257 dr258 dr259 dr260 dr261 dr262 dr263 dr269 dr270 dr271 dr272 dr273 dr274 dr291 dr292 dr293 dr294 dr295 dr296 dr297 dr298 dr299 dr300 dr314 dr315 dr316 dr317 dr318 dr323 dr324 dr325 dr41 dr44 dr86 dr124 dr106 dr170 dr192 dr129 dr130 dr177 dr287 dr243 dr288 dr290 dr312 dr142 dr182
attribute [go_sem ↓] conc144 conc89 conc9
set_option maxRecDepth 10000
def wrongV (v : V) : Int :=
  if v.k = 1 then 0 else if v.k = 2 then (if v.n ≠ 0 ∧ v.n ≠ 1 then 3 else 0) else if v.k = 3 then (if v.n > 1000000000000000 ∨ v.n < -1000000000000000 then 3 else 0)
  else if v.k = 4 then (if v.t.length > 60 then 4 else 0) else 1
theorem ct_vals_Wrong (v : V) (M : Mem) : Ct Tryz.prog 127 [.agg ⟨v.cs⟩] M [] [] (fun r _ _ _ => r = .int .i64 (wrongV v)) noPan := by
  intro T
  obtain ⟨k, n, t⟩ := v
  refine ct_run mx bod127 Tryz.func127 rfl (by rw [nt127]; exact Nat.le_of_ble_eq_true rfl) (dr := dr127) (by kernel_rfl) rs127 ?_
  intro _ _
  simp +contextual only [go_sem, Rcb, Rbk, sevalprocAttr, V.cs]
  intro b T1 _ hT _
  (repeat' split) <;> (refine end_none hT ?_; refine int_eq ?_; simp only [wrongV]; grind)
theorem ct_ref1_Wrong (v : V) (M : Mem) : Ct Tryz.prog 60 [.agg ⟨v.cs⟩] M [] [] (fun r _ _ _ => r = .int .i64 (wrongV v)) noPan := by
  intro T
  obtain ⟨k, n, t⟩ := v
  refine ct_run mx bod60 Tryz.func60 rfl (by rw [nt60]; exact Nat.le_of_ble_eq_true rfl) (dr := dr60) (by kernel_rfl) rs60 ?_
  intro _ _
  simp +contextual only [go_sem, Rcb, Rbk, sevalprocAttr, V.cs]
  intro b T1 _ hT _
  (repeat' split) <;> (refine end_none hT ?_; refine int_eq ?_; simp only [wrongV]; grind)
def kidsN (k : Int) : Int := if k = 1 ∨ k = 2 ∨ k = 19 then 0 else if k = 3 ∨ k = 16 ∨ (20 ≤ k ∧ k ≤ 23) then 1 else if (4 ≤ k ∧ k ≤ 15) ∨ k = 18 then 2 else if k = 17 then 3 else -1
theorem ct_sql_kids (k : Int) (M : Mem) : Ct Tryz.prog 233 [.int .i64 k] M [] [] (fun r _ _ _ => r = .int .i64 (kidsN k)) noPan := by
  intro T
  refine ct_run mx bod233 Tryz.func233 rfl (by rw [nt233]; exact Nat.le_of_ble_eq_true rfl) (dr := dr233) (by kernel_rfl) rs233 ?_
  intro _ _
  simp +contextual only [go_sem, Rcb, Rbk, sevalprocAttr]
  (repeat' split) <;> (refine end_none ExtT.rfl' ?_; refine int_eq ?_; simp only [kidsN]; grind)
def letterB (c : Int) : Bool := (decide (97 ≤ c) && decide (c ≤ 122)) || decide (c = 95)
def digitB (c : Int) : Bool := decide (48 ≤ c) && decide (c ≤ 57)
theorem ct_sql_letter (c : Int) (M : Mem) : Ct Tryz.prog 138 [.int .u8 c] M [] [] (fun r _ _ _ => r = .bool (letterB c)) noPan := by
  intro T
  refine ct_run mx bod138 Tryz.func138 rfl (by rw [nt138]; exact Nat.le_of_ble_eq_true rfl) (dr := dr138) (by kernel_rfl) rs138 ?_
  intro _ _
  simp +contextual only [go_sem, Rcb, Rbk, sevalprocAttr]
  refine end_none ExtT.rfl' ?_
  simp [letterB]
theorem ct_sql_digit (c : Int) (M : Mem) : Ct Tryz.prog 141 [.int .u8 c] M [] [] (fun r _ _ _ => r = .bool (digitB c)) noPan := by
  intro T
  refine ct_run mx bod141 Tryz.func141 rfl (by rw [nt141]; exact Nat.le_of_ble_eq_true rfl) (dr := dr141) (by kernel_rfl) rs141 ?_
  intro _ _
  simp +contextual only [go_sem, Rcb, Rbk, sevalprocAttr]
  refine end_none ExtT.rfl' ?_
  simp [digitB]
theorem ct_one1 (c : Int) (M : Mem) : Ct Tryz.prog 140 [.int .u8 c] M [] [] (fun r _ _ _ => r = .bool (letterB c || digitB c)) noPan := by
  intro T
  refine ct_run mx bod140 Tryz.func140 rfl (by rw [nt140]; exact Nat.le_of_ble_eq_true rfl) (dr := dr140) (by kernel_rfl) rs140 ?_
  intro _ _
  simp +contextual only [go_sem, Rcb, Rbk, sevalprocAttr]
  refine rCall_pure (ct_sql_letter c M T) ?_ (fun _ _ _ _ h => h.elim)
  rintro v M' hM hno rfl
  simp +contextual only [go_sem, Rcb, Rbk, sevalprocAttr]
  split
  · rename_i h
    exact end_none ExtT.rfl' (by simp [h])
  · rename_i h
    refine rCall_pure (ct_sql_digit c M' T) ?_ (fun _ _ _ _ h => h.elim)
    rintro v M'' hM' hno' rfl
    simp +contextual only [go_sem, Rcb, Rbk, sevalprocAttr, h]
    exact end_none ExtT.rfl' (by simp [h])
theorem ct_ref_letter (c : Int) (M : Mem) : Ct Tryz.prog 53 [.int .u8 c] M [] [] (fun r _ _ _ => r = .bool (letterB c)) noPan := by
  intro T
  refine ct_run mx bod53 Tryz.func53 rfl (by rw [nt53]; exact Nat.le_of_ble_eq_true rfl) (dr := dr53) (by kernel_rfl) rs53 ?_
  intro _ _
  simp +contextual only [go_sem, Rcb, Rbk, sevalprocAttr]
  refine end_none ExtT.rfl' ?_
  simp [letterB, Bool.or_comm]
theorem ct_ref_digit (c : Int) (M : Mem) : Ct Tryz.prog 54 [.int .u8 c] M [] [] (fun r _ _ _ => r = .bool (digitB c)) noPan := by
  intro T
  refine ct_run mx bod54 Tryz.func54 rfl (by rw [nt54]; exact Nat.le_of_ble_eq_true rfl) (dr := dr54) (by kernel_rfl) rs54 ?_
  intro _ _
  simp +contextual only [go_sem, Rcb, Rbk, sevalprocAttr]
  refine end_none ExtT.rfl' ?_
  simp [digitB]
structure Tk where
  k : Int
  s : Bs
  at_ : Int
def numOk (s : Bs) : Bool := decide (1 ≤ s.length ∧ s.length ≤ 16) && s.all fun c => digitB c.toNat
def RTk (t : Tk) (cs : List Value) : Prop := cs = [.int .i64 t.k, st t.s, .int .i64 t.at_] ∧ (t.k = 2 → numOk t.s = true)
theorem RTk_len {t : Tk} {cs} (h : RTk t cs) : cs.length = 3 := by obtain ⟨rfl, _⟩ := h; rfl
def oopsV (e a : Int) : List PanicEntry := [{ v := .iface 144 (.agg #[.int .i64 e, .int .i64 a]), recovered := false }]
theorem ct_sql_fail (e a : Int) (M : Mem) : Ct Tryz.prog 48 [.int .i64 e, .int .i64 a] M [] [] (fun _ _ _ _ => False) (fun ch _ _ _ => ch = oopsV e a) := by
  intro T
  refine ct_run mx bod48 Tryz.func48 rfl (by rw [nt48]; exact Nat.le_of_ble_eq_true rfl) (dr := dr48) (by kernel_rfl) rs48 ?_
  intro _ _
  simp +contextual only [go_sem, Rcb, Rbk, sevalprocAttr]
  exact end_none ExtT.rfl' rfl
def atM (en : Int) : List Tk → Int | [] => en | t :: _ => t.at_
def seesM (s : Bs) : List Tk → Bool | [] => false | t :: _ => decide (t.s = s) && (decide (t.k = 1) || decide (t.k = 4))
theorem RTk_at {M : Mem} {b o : Nat} {t : Tk} {cs} (h : RTk t cs) (ha : At M b o cs) : mcell M ⟨b, o, none⟩ = some (.int .i64 t.k) ∧ mcell M ⟨b, o + 1, none⟩ = some (st t.s) ∧ mcell M ⟨b, o + 2, none⟩ = some (.int .i64 t.at_) := by
  obtain ⟨rfl, _⟩ := h
  exact ⟨ha.1, ha.2.1, ha.2.2.1⟩
theorem toks_cases {M : Mem} {toks : List Tk} {lv : Value} (h : RS M RTk 3 toks lv) :
    (toks = [] ∧ ∃ a c, lv = .slice a 0 c) ∨ ∃ t r b o c, toks = t :: r ∧ lv = .slice (some ⟨b, o, none⟩) (r.length + 1) c ∧ r.length + 1 ≤ c ∧
      mcell M ⟨b, o, none⟩ = some (.int .i64 t.k) ∧ mcell M ⟨b, o + 1, none⟩ = some (st t.s) ∧ mcell M ⟨b, o + 2, none⟩ = some (.int .i64 t.at_) := by
  obtain ⟨hb, a, c, rfl, hle, _, hget⟩ := RS_elim (by decide) (fun _ _ => RTk_len) h
  cases toks with
  | nil => exact .inl ⟨rfl, a, c, rfl⟩
  | cons t r =>
    obtain ⟨b, o, cs, rfl, ha, hr⟩ := hget 0 t rfl
    have := RTk_at hr ha
    simp only [Nat.zero_mul, Nat.add_zero] at this
    exact .inr ⟨t, r, b, o, c, rfl, rfl, hle, this⟩
theorem toks_num {M : Mem} {t : Tk} {r : List Tk} {lv : Value} (h : RS M RTk 3 (t :: r) lv) (hk : t.k = 2) : numOk t.s = true := by
  obtain ⟨_, xs, _, hl⟩ := h
  obtain ⟨cs, rest, _, h1, _⟩ := hl
  exact h1.2 hk
theorem ct_p_at {M : Mem} {pb : Nat} {toks : List Tk} {lv : Value} {en op : Int} (hl : RS M RTk 3 toks lv) :
    Ct Tryz.prog 49 [.pointer (some ⟨pb, 0, none⟩)] M (pL pb lv en op) [] (fun r M' L' R' => r = .int .i64 (atM en toks) ∧ M' = M ∧ L' = pL pb lv en op ∧ R' = []) noPan := by
  intro T
  refine ct_run mx bod49 Tryz.func49 rfl (by rw [nt49]; exact Nat.le_of_ble_eq_true rfl) (dr := dr49) (by kernel_rfl) rs49 ?_
  intro hno _
  simp only [noneL_pL] at hno
  rcases toks_cases hl with ⟨rfl, a, c, rfl⟩ | ⟨t, r, b, o, c, rfl, rfl, hc, h0, h1, h2⟩
  · simp +contextual only [go_sem, Rcb, Rbk, sevalprocAttr, hno]
    exact end_id ExtT.rfl' rfl rfl ⟨rfl, rfl, rfl, rfl⟩
  · simp +contextual only [go_sem, Rcb, Rbk, sevalprocAttr, hno, h0, h1, h2]
    exact end_id ExtT.rfl' rfl rfl ⟨rfl, rfl, rfl, rfl⟩
theorem ct_p_sees {M : Mem} {pb : Nat} {toks : List Tk} {lv : Value} {en op : Int} (s : Bs) (hl : RS M RTk 3 toks lv) :
    Ct Tryz.prog 143 [.pointer (some ⟨pb, 0, none⟩), st s] M (pL pb lv en op) [] (fun r M' L' R' => r = .bool (seesM s toks) ∧ M' = M ∧ L' = pL pb lv en op ∧ R' = []) noPan := by
  intro T
  refine ct_run mx bod143 Tryz.func143 rfl (by rw [nt143]; exact Nat.le_of_ble_eq_true rfl) (dr := dr143) (by kernel_rfl) rs143 ?_
  intro hno _
  simp only [noneL_pL] at hno
  rcases toks_cases hl with ⟨rfl, a, c, rfl⟩ | ⟨t, r, b, o, c, rfl, rfl, hc, h0, h1, h2⟩
  · simp +contextual only [go_sem, Rcb, Rbk, sevalprocAttr, hno]
    exact end_id ExtT.rfl' rfl rfl ⟨rfl, rfl, rfl, rfl⟩
  · simp +contextual only [go_sem, Rcb, Rbk, sevalprocAttr, hno, h0, h1, h2]
    refine end_id ExtT.rfl' rfl rfl ⟨?_, rfl, rfl, rfl⟩
    simp [seesM]
theorem ct_p_is {M : Mem} {pb : Nat} {toks : List Tk} {lv : Value} {en op : Int} (s : Bs) (hl : RS M RTk 3 toks lv) :
    Ct Tryz.prog 94 [.pointer (some ⟨pb, 0, none⟩), st s] M (pL pb lv en op) [] (fun r M' L' R' => r = .bool (seesM s toks) ∧ M' = M ∧ R' = [] ∧ ∃ lv', L' = pL pb lv' en op ∧ RS M RTk 3 (if seesM s toks = true then toks.tail else toks) lv') noPan := by
  intro T
  refine ct_run mx bod94 Tryz.func94 rfl (by rw [nt94]; exact Nat.le_of_ble_eq_true rfl) (dr := dr94) (by kernel_rfl) rs94 ?_
  intro hno _
  simp +contextual only [go_sem, Rcb, Rbk, sevalprocAttr]
  refine rCall_of [] (pL pb lv en op) [] [] [] [] (ct_p_sees s hl T) ?_ (fun _ _ _ _ _ _ _ _ h => h.elim)
  rintro v M' L' R' hM _ _ hno' ⟨rfl, rfl, rfl, rfl⟩
  simp only [noneL_pL] at hno
  by_cases hs : seesM s toks = true
  · rcases toks_cases hl with ⟨rfl, a, c, rfl⟩ | ⟨t, r, b, o, c, rfl, rfl, hc, h0, h1, h2⟩
    · cases hs
    · have hc2 : (1 : Int) ≤ ((r.length + 1 : Nat) : Int) ∧ r.length + 1 ≤ c := ⟨by omega, hc⟩
      simp +contextual only [go_sem, Rcb, Rbk, sevalprocAttr, hno, hs, hc2]
      refine end_id ExtT.rfl' rfl rfl ?_
      refine ⟨rfl, rfl, rfl, _, rfl, ?_⟩
      have := RS_cut (k := 1) (by decide) (fun _ _ => RTk_len) hl (by simp)
      simpa using this
  · simp +contextual only [go_sem, Rcb, Rbk, sevalprocAttr, hno, hs]
    exact end_id ExtT.rfl' rfl rfl ⟨rfl, rfl, rfl, _, rfl, hl⟩
inductive Rs (α : Type) where
  | ok (a : α) (r : List Tk)
  | err (e a : Int)
  | out
def postP {α : Type} (pb : Nat) (en op : Int) (enc : α → Value → Mem → Prop) (res : Rs α) : PostP := fun v M' L' R' => ∃ a r lv', res = .ok a r ∧ L' = pL pb lv' en op ∧ RS M' RTk 3 r lv' ∧ R' = [] ∧ enc a v M'
def panP {α : Type} (pb : Nat) (en : Int) (res : Rs α) : PanP := fun ch _ L' R' => ∃ e a lv' op', res = .err e a ∧ ch = oopsV e a ∧ L' = pL pb lv' en op' ∧ R' = []
def needM (en : Int) : List Bs → List Tk → Rs Unit
  | [], t => .ok () t
  | s :: l, t => if seesM s t = true then needM en l t.tail else .err 2 (atM en t)
theorem Close_dropL {N M R} {k : Sh → Prop} {Lp : LL} : ∀ (L1 : LL), Close ⟨N, M, Lp, R⟩ k → Close ⟨N, M, L1 ++ Lp, R⟩ k
  | [], h => h
  | (_, _) :: L1, h => Close_drop (Close_dropL L1 h)
section
variable {α : Type} {T N : Tm} {M : Mem} {R : RR} {dr : List (Nat × Sched)} {ts : List ResultVar} {post : PostP} {pb : Nat} {lv0 lv : Value} {en op0 op : Int} {d : Option Nat} {s : List Vc.Item} {e : Env} {toks : List Tk} {F : Fi} {ds : List Deferred} {L1 L2 : LL}
theorem pan_p {res : Rs α} {c a : Int} (L1 : LL) (hT : ExtT T N) (h : res = .err c a) : (fi Tryz.prog T dr ts (keys (pL pb lv0 en op0)) 0 post (panP pb en res)).pan (oopsV c a) e [] ⟨N, M, L1 ++ pL pb lv en op, R⟩ := by
  rw [fi_pan, panF_eq]
  exact Close_dropL L1 (Close_dropAllR (end_id hT rfl rfl ⟨c, a, lv, op, h, rfl, rfl, rfl⟩))
theorem fail_p {res : Rs α} {c a : Int} (L1 : LL) (hT : ExtT T N) (h : res = .err c a) : rCall Tryz.prog (fi Tryz.prog T dr ts (keys (pL pb lv0 en op0)) 0 post (panP pb en res)) 48 [.int .i64 c, .int .i64 a] d s e [] ⟨N, M, L1 ++ pL pb lv en op, R⟩ ⟨⟩ := by
  refine rCall_pure (ct_sql_fail c a M N) (fun _ _ _ _ h => h.elim) ?_
  rintro ch M4 hM4 hno4 rfl
  exact pan_p L1 hT h
theorem at_p (L1 : LL) (hl : RS M RTk 3 toks lv) (k : Run Tryz.prog F s (updo e d (.int .i64 (atM en toks))) ds ⟨N, M, L1 ++ pL pb lv en op, R⟩ ⟨⟩) :
    rCall Tryz.prog F 49 [.pointer (some ⟨pb, 0, none⟩)] d s e ds ⟨N, M, L1 ++ pL pb lv en op, R⟩ ⟨⟩ := by
  refine rCall_one L1 (ct_p_at hl N) (fun v M' L' _ _ hno h => ?_) (fun _ _ _ _ _ _ h => h.elim)
  obtain ⟨rfl, rfl, rfl, -⟩ := h
  exact k
theorem sees_p (L1 : LL) (x : Bs) (hl : RS M RTk 3 toks lv) (k : Run Tryz.prog F s (updo e d (.bool (seesM x toks))) ds ⟨N, M, L1 ++ pL pb lv en op, R⟩ ⟨⟩) :
    rCall Tryz.prog F 143 [.pointer (some ⟨pb, 0, none⟩), .string (bs x)] d s e ds ⟨N, M, L1 ++ pL pb lv en op, R⟩ ⟨⟩ := by
  refine rCall_one L1 (ct_p_sees x hl N) (fun v M' L' _ _ hno h => ?_) (fun _ _ _ _ _ _ h => h.elim)
  obtain ⟨rfl, rfl, rfl, -⟩ := h
  exact k
theorem is_p (L1 : LL) (x : Bs) (hl : RS M RTk 3 toks lv) (k : ∀ lv', RS M RTk 3 (if seesM x toks = true then toks.tail else toks) lv' → Run Tryz.prog F s (updo e d (.bool (seesM x toks))) ds ⟨N, M, L1 ++ pL pb lv' en op, R⟩ ⟨⟩) :
    rCall Tryz.prog F 94 [.pointer (some ⟨pb, 0, none⟩), .string (bs x)] d s e ds ⟨N, M, L1 ++ pL pb lv en op, R⟩ ⟨⟩ := by
  refine rCall_one L1 (ct_p_is x hl N) (fun v M' L' _ _ hno h => ?_) (fun _ _ _ _ _ _ h => h.elim)
  obtain ⟨rfl, rfl, -, lv', rfl, hl'⟩ := h
  exact k lv' hl'
theorem is_c (L1 : LL) (x : Bs) (hl : RS M RTk 3 toks lv) (k1 : seesM x toks = true → ∀ lv', RS M RTk 3 toks.tail lv' → Run Tryz.prog F s (updo e d (.bool true)) ds ⟨N, M, L1 ++ pL pb lv' en op, R⟩ ⟨⟩)
    (k2 : seesM x toks = false → ∀ lv', RS M RTk 3 toks lv' → Run Tryz.prog F s (updo e d (.bool false)) ds ⟨N, M, L1 ++ pL pb lv' en op, R⟩ ⟨⟩) :
    rCall Tryz.prog F 94 [.pointer (some ⟨pb, 0, none⟩), .string (bs x)] d s e ds ⟨N, M, L1 ++ pL pb lv en op, R⟩ ⟨⟩ := by
  refine is_p L1 x hl fun lv' hl' => ?_
  cases hs : seesM x toks with
  | true => exact k1 hs lv' (by simpa [hs] using hl')
  | false => exact k2 hs lv' (by simpa [hs] using hl')
theorem part_p {f : FuncId} {args : List Value} {enc : α → Value → Mem → Prop} {res : Rs α} (L1 : LL) (hc : CtT Tryz.prog f args N M (pL pb lv en op) [] (postP pb en op enc res) (panP pb en res))
    (k : ∀ v M' a r lv', Ext M M' → noneL M' (L1 ++ pL pb lv' en op) → res = .ok a r → RS M' RTk 3 r lv' → enc a v M' → Run Tryz.prog F s (updo e d v) ds ⟨N, M', L1 ++ pL pb lv' en op, R⟩ ⟨⟩)
    (kp : ∀ c a M' lv' op', Ext M M' → res = .err c a → F.pan (oopsV c a) e ds ⟨N, M', L1 ++ pL pb lv' en op', R⟩) :
    rCall Tryz.prog F f args d s e ds ⟨N, M, L1 ++ pL pb lv en op, R⟩ ⟨⟩ := by
  refine rCall_one L1 hc (fun v M' L' hM _ hno h => ?_) (fun ch M' L' hM _ hno h => ?_)
  · obtain ⟨a, r, lv', hres, rfl, hr, -, he⟩ := h
    exact k v M' a r lv' hM hno hres hr he
  · obtain ⟨c, a, lv', op', hres, rfl, rfl, -⟩ := h
    exact kp c a M' lv' op' hM hres
end
theorem ct_p_need {M : Mem} {pb : Nat} {toks : List Tk} {lv sv : Value} {en op : Int} {l : List Bs} (hl : RS M RTk 3 toks lv) (hs : RS M RSt 1 l sv) :
    Ct Tryz.prog 51 [.pointer (some ⟨pb, 0, none⟩), sv] M (pL pb lv en op) [] (postP pb en op (fun _ v _ => v = .tuple #[]) (needM en l toks)) (panP pb en (needM en l toks)) := by
  intro T
  obtain ⟨hb, a, c, rfl, hle, _, hget⟩ := RS_elim (by decide) (fun _ _ => RSt_len) hs
  refine ct_run mx bod51 Tryz.func51 rfl (by rw [nt51]; exact Nat.le_of_ble_eq_true rfl) (dr := dr51) (by kernel_rfl) rs51 ?_
  intro hno _
  simp +contextual only [go_sem, Rcb, Rbk, sevalprocAttr]
  refine loop_range l.length 8 [(0, .pointer (some ⟨pb, 0, none⟩)), (6, .slice a l.length c), (7, .int .i64 l.length)] (fun i e h => ∃ M' toks' lv', Ext M M' ∧ h = ⟨T, M', pL pb lv' en op, []⟩ ∧ M' pb = none ∧ RS M' RTk 3 toks' lv' ∧ needM en l toks = needM en (l.drop i) toks') 0 (by omega) (by simp only [live, go_sem, Rcb, Rbk, sevalprocAttr]) (by simp only [go_sem, Rcb, Rbk, sevalprocAttr]) ⟨M, toks, lv, Ext.rfl', rfl, by simpa only [noneL_pL] using hno, hl, by simp⟩ ?_
  rintro i e h hi hlv ht ⟨M', toks', lv', hM, rfl, hno', hl', hres⟩
  simp only [live] at hlv
  by_cases hlt : i < l.length
  · obtain ⟨b, o, cs, rfl, hat, hrs⟩ := hget i l[i] (List.getElem?_eq_getElem hlt)
    unfold RSt at hrs; subst hrs
    have hx := mcell_ext hM hat.1
    rw [Nat.mul_one] at hx
    simp +contextual only [go_sem, Rcb, Rbk, sevalprocAttr, hlv, ht, hlt, hx]
    refine rCall_of [] (pL pb lv' en op) [] [] [] [] (ct_p_is l[i] hl' T) ?_ (fun _ _ _ _ _ _ _ _ h => h.elim)
    rintro v M'' L' R' hM' _ _ hno'' ⟨rfl, rfl, rfl, lv'', rfl, hl''⟩
    have hdrop : l.drop i = l[i] :: l.drop (i + 1) := List.drop_eq_getElem_cons hlt
    rw [hdrop] at hres
    by_cases hs : seesM l[i] toks' = true
    · simp +contextual only [go_sem, Rcb, Rbk, sevalprocAttr, hlv, ht, hs]
      refine lp_range hlt ?_ ?_ ⟨M'', toks'.tail, lv'', hM, rfl, hno', by simpa [hs] using hl'', by simpa [needM, hs] using hres⟩
      · simp only [live, hlv, go_sem, Rcb, Rbk, sevalprocAttr]
      · simp only [ht, go_sem, Rcb, Rbk, sevalprocAttr, wrap_succ i (by omega)]
    · simp +contextual only [go_sem, Rcb, Rbk, sevalprocAttr, hlv, ht, hs]
      simp only [hs, if_false] at hl''
      refine rCall_of [] (pL pb lv'' en op) [] [] [] [] (ct_p_at hl'' T) ?_ (fun _ _ _ _ _ _ _ _ h => h.elim)
      rintro v M3 L' R' hM3 _ _ hno3 ⟨rfl, rfl, rfl, rfl⟩
      simp +contextual only [go_sem, Rcb, Rbk, sevalprocAttr, hlv, ht, hs]
      refine fail_p [] ExtT.rfl' ?_
      rw [hres]
      simp [needM, hs]
  · have : i = l.length := by omega
    subst this
    simp +contextual only [go_sem, Rcb, Rbk, sevalprocAttr, hlv, ht, hlt]
    refine end_id ExtT.rfl' rfl rfl ⟨(), toks', lv', ?_, rfl, hl', rfl, rfl⟩
    rw [hres]
    simp [needM]
def idxS (x : Bs) : List Bs → Int
  | [] => -1
  | s :: l => if s = x then 0 else if idxS x l < 0 then -1 else idxS x l + 1
def idxFrom (x : Bs) (l : List Bs) (i : Nat) : Int := if idxS x (l.drop i) < 0 then -1 else idxS x (l.drop i) + i
theorem ct_Index {M : Mem} {l : List Bs} {sv : Value} (x : Bs) (hs : RS M RSt 1 l sv) :
    Ct Tryz.prog 170 [sv, st x] M [] [] (fun r _ _ _ => r = .int .i64 (idxFrom x l 0)) noPan := by
  intro T
  obtain ⟨hb, a, c, rfl, hle, _, hget⟩ := RS_elim (by decide) (fun _ _ => RSt_len) hs
  refine ct_run mx bod170 Tryz.func170 rfl (by rw [nt170]; exact Nat.le_of_ble_eq_true rfl) (dr := dr170) (by kernel_rfl) rs170 ?_
  intro hno _
  simp +contextual only [go_sem, Rcb, Rbk, sevalprocAttr]
  refine loop_range l.length 8 [(0, .slice a l.length c), (1, st x), (6, .slice a l.length c), (7, .int .i64 l.length)] (fun i e h => h = ⟨T, M, [], []⟩ ∧ idxFrom x l 0 = idxFrom x l i) 0 (by omega) (by simp only [live, go_sem, Rcb, Rbk, sevalprocAttr]) (by simp only [go_sem, Rcb, Rbk, sevalprocAttr]) ⟨rfl, rfl⟩ ?_
  rintro i e h hi hlv ht ⟨rfl, hres⟩
  simp only [live, st] at hlv
  by_cases hlt : i < l.length
  · obtain ⟨b, o, cs, rfl, hat, hrs⟩ := hget i l[i] (List.getElem?_eq_getElem hlt)
    unfold RSt at hrs; subst hrs
    have hx := hat.1
    rw [Nat.mul_one] at hx
    have hdrop : l.drop i = l[i] :: l.drop (i + 1) := List.drop_eq_getElem_cons hlt
    simp +contextual only [go_sem, Rcb, Rbk, sevalprocAttr, hlv, ht, hlt, hx]
    split
    · rename_i he
      refine end_none ExtT.rfl' ?_
      rw [he] at hres
      rw [hres]
      unfold idxFrom
      rw [hdrop]
      simp only [idxS, if_true]
      simp
    · rename_i he
      refine lp_range hlt ?_ ?_ ⟨rfl, ?_⟩
      · simp only [live, hlv, go_sem, Rcb, Rbk, sevalprocAttr]
      · simp only [ht, go_sem, Rcb, Rbk, sevalprocAttr, wrap_succ i (by omega)]
      · rw [hres]
        simp only [idxFrom, hdrop, idxS, if_neg (Ne.symm he)]
        split <;> split <;> omega
  · have : i = l.length := by omega
    subst this
    simp +contextual only [go_sem, Rcb, Rbk, sevalprocAttr, hlv, ht, hlt]
    refine end_none ExtT.rfl' ?_
    rw [hres]
    simp [idxFrom, idxS]
theorem idxS_mem (x : Bs) (l : List Bs) : (0 ≤ idxS x l) ↔ x ∈ l := by
  induction l with
  | nil => simp [idxS]
  | cons s l ih =>
    simp only [idxS, List.mem_cons]
    split
    · rename_i h; simp [h]
    · rename_i h
      have hx : x ≠ s := fun he => h he.symm
      rw [show (x = s ∨ x ∈ l) ↔ x ∈ l from by simp [hx], ← ih]
      split <;> omega
theorem ct_Contains {M : Mem} {l : List Bs} {sv : Value} (x : Bs) (hs : RS M RSt 1 l sv) :
    Ct Tryz.prog 106 [sv, st x] M [] [] (fun r _ _ _ => r = .bool (l.contains x)) noPan := by
  intro T
  refine ct_run mx bod106 Tryz.func106 rfl (by rw [nt106]; exact Nat.le_of_ble_eq_true rfl) (dr := dr106) (by kernel_rfl) rs106 ?_
  intro hno _
  simp +contextual only [go_sem, Rcb, Rbk, sevalprocAttr]
  refine rCall_pure (ct_Index x hs T) ?_ (fun _ _ _ _ h => h.elim)
  rintro v M' hM hno rfl
  simp +contextual only [go_sem, Rcb, Rbk, sevalprocAttr]
  refine end_none ExtT.rfl' ?_
  simp only [idxFrom, List.drop_zero]
  have := idxS_mem x l
  by_cases hm : x ∈ l
  · have h0 := this.2 hm
    rw [if_neg (by omega)]
    simp [hm, h0]
  · have h0 : ¬ 0 ≤ idxS x l := fun h => hm (this.1 h)
    rw [if_pos (by omega)]
    simp [hm]
end Go.Proofs.YtmccpbcbofhmlaaGreatDoor
namespace Go.Proofs
open Go.Shelf
def Tryz.lays137_ren : Go.Shelf.Ren := ⟨fun | 137 => 92 | 217 => 137 | 266 => 181 | n => n, fun | 9 => 9 | 5 => 5 | 3 => 3 | n => n, fun | n => n⟩
theorem Tryz.lays137 : Go.Proofs.Lays.n137 Tryz.prog Tryz.lays137_ren := {
  mixed := by kernel_rfl
  f137 := Tryz.func92.trans (congrArg some (by kernel_rfl))
  f217 := Tryz.func137.trans (congrArg some (by kernel_rfl))
  f266 := Tryz.func181.trans (congrArg some (by kernel_rfl))
  t3 := Tryz.underlying3
  a3 := Tryz.isAgg3
  z3 := Tryz.sizeOf3
  v3 := Tryz.zeroValue3
  t5 := Tryz.underlying5
  a5 := Tryz.isAgg5
  z5 := Tryz.sizeOf5
  v5 := Tryz.zeroValue5
  t9 := Tryz.underlying9
  a9 := Tryz.isAgg9
  z9 := Tryz.sizeOf9
  v9 := Tryz.zeroValue9 }
open Go.RowKit in
theorem Tryz.strings_IndexByte (s : ByteArray) (c : Int) (w : World) :
    Calls Tryz.prog 92 #[.string s, .int .u8 c] w fun e w' => e = .returned (.int .i64 (Lib.indexByte s.data.toList c.toNat.toUInt8)) ∧ w' = w := Any.strings_IndexByte Tryz.lays137 s c w
def Tryz.laysC174_ren : Go.Shelf.Ren := ⟨fun | 174 => 188 | 247 => 240 | 245 => 241 | 287 => 282 | 279 => 283 | 280 => 284 | 281 => 285 | 282 => 286 | 321 => 308 | 322 => 309 | 316 => 310 | 171 => 72 | 205 => 311 | 243 => 112 | 246 => 171 | 283 => 220 | 284 => 221 | 285 => 222 | 286 => 223 | 129 => 265 | 317 => 264 | 318 => 266 | 319 => 267 | 320 => 268 | 337 => 301 | 338 => 302 | n => n, fun | 9 => 9 | 3 => 3 | 2 => 2 | 75 => 230 | 85 => 283 | 4 => 4 | 167 => 374 | 5 => 5 | 53 => 312 | 175 => 375 | 46 => 363 | 168 => 377 | 37 => 134 | 0 => 0 | 210 => 403 | 21 => 21 | 127 => 196 | 145 => 427 | 143 => 425 | 171 => 311 | 173 => 315 | 212 => 359 | 51 => 360 | 20 => 20 | 213 => 361 | 232 => 410 | 233 => 411 | 80 => 142 | n => n, fun | 15 => 6 | 16 => 7 | 17 => 1 | 18 => 8 | 19 => 9 | n => n⟩
theorem Tryz.laysC174 : Go.Proofs.LaysC.n174 Tryz.prog Tryz.laysC174_ren := {
  mixed := by kernel_rfl
  f129 := Tryz.func265.trans (congrArg some (by kernel_rfl))
  f171 := Tryz.func72.trans (congrArg some (by kernel_rfl))
  f174 := Tryz.func188.trans (congrArg some (by kernel_rfl))
  f205 := Tryz.func311.trans (congrArg some (by kernel_rfl))
  f243 := Tryz.func112.trans (congrArg some (by kernel_rfl))
  f245 := Tryz.func241.trans (congrArg some (by kernel_rfl))
  f246 := Tryz.func171.trans (congrArg some (by kernel_rfl))
  f247 := Tryz.func240.trans (congrArg some (by kernel_rfl))
  f279 := Tryz.func283.trans (congrArg some (by kernel_rfl))
  f280 := Tryz.func284.trans (congrArg some (by kernel_rfl))
  f281 := Tryz.func285.trans (congrArg some (by kernel_rfl))
  f282 := Tryz.func286.trans (congrArg some (by kernel_rfl))
  f283 := Tryz.func220.trans (congrArg some (by kernel_rfl))
  f284 := Tryz.func221.trans (congrArg some (by kernel_rfl))
  f285 := Tryz.func222.trans (congrArg some (by kernel_rfl))
  f286 := Tryz.func223.trans (congrArg some (by kernel_rfl))
  f287 := Tryz.func282.trans (congrArg some (by kernel_rfl))
  f316 := Tryz.func310.trans (congrArg some (by kernel_rfl))
  f317 := Tryz.func264.trans (congrArg some (by kernel_rfl))
  f318 := Tryz.func266.trans (congrArg some (by kernel_rfl))
  f319 := Tryz.func267.trans (congrArg some (by kernel_rfl))
  f320 := Tryz.func268.trans (congrArg some (by kernel_rfl))
  f321 := Tryz.func308.trans (congrArg some (by kernel_rfl))
  f322 := Tryz.func309.trans (congrArg some (by kernel_rfl))
  f337 := Tryz.func301.trans (congrArg some (by kernel_rfl))
  f338 := Tryz.func302.trans (congrArg some (by kernel_rfl))
  t0 := Tryz.underlying0
  a0 := Tryz.isAgg0
  z0 := Tryz.sizeOf0
  v0 := Tryz.zeroValue0
  t2 := Tryz.underlying2
  a2 := Tryz.isAgg2
  z2 := Tryz.sizeOf2
  v2 := Tryz.zeroValue2
  t3 := Tryz.underlying3
  a3 := Tryz.isAgg3
  z3 := Tryz.sizeOf3
  v3 := Tryz.zeroValue3
  t4 := Tryz.underlying4
  a4 := Tryz.isAgg4
  z4 := Tryz.sizeOf4
  v4 := Tryz.zeroValue4
  t5 := Tryz.underlying5
  a5 := Tryz.isAgg5
  z5 := Tryz.sizeOf5
  v5 := Tryz.zeroValue5
  t9 := Tryz.underlying9
  a9 := Tryz.isAgg9
  z9 := Tryz.sizeOf9
  v9 := Tryz.zeroValue9
  t20 := Tryz.underlying20
  a20 := Tryz.isAgg20
  z20 := Tryz.sizeOf20
  v20 := Tryz.zeroValue20
  t21 := Tryz.underlying21
  a21 := Tryz.isAgg21
  z21 := Tryz.sizeOf21
  v21 := Tryz.zeroValue21
  t37 := Tryz.underlying134
  a37 := Tryz.isAgg134
  z37 := Tryz.sizeOf134
  v37 := Tryz.zeroValue134
  t46 := Tryz.underlying363
  a46 := Tryz.isAgg363
  z46 := Tryz.sizeOf363
  v46 := Tryz.zeroValue363
  t51 := Tryz.underlying360
  a51 := Tryz.isAgg360
  z51 := Tryz.sizeOf360
  v51 := Tryz.zeroValue360
  t53 := Tryz.underlying312
  a53 := Tryz.isAgg312
  z53 := Tryz.sizeOf312
  v53 := Tryz.zeroValue312
  t75 := Tryz.underlying230
  a75 := Tryz.isAgg230
  z75 := Tryz.sizeOf230
  v75 := Tryz.zeroValue230
  t85 := Tryz.underlying283
  a85 := Tryz.isAgg283
  z85 := Tryz.sizeOf283
  v85 := Tryz.zeroValue283
  t127 := Tryz.underlying196
  a127 := Tryz.isAgg196
  z127 := Tryz.sizeOf196
  v127 := Tryz.zeroValue196
  t143 := Tryz.underlying425
  a143 := Tryz.isAgg425
  z143 := Tryz.sizeOf425
  v143 := Tryz.zeroValue425
  t145 := Tryz.underlying427
  a145 := Tryz.isAgg427
  z145 := Tryz.sizeOf427
  v145 := Tryz.zeroValue427
  t167 := Tryz.underlying374
  a167 := Tryz.isAgg374
  z167 := Tryz.sizeOf374
  v167 := Tryz.zeroValue374
  t168 := Tryz.underlying377
  a168 := Tryz.isAgg377
  z168 := Tryz.sizeOf377
  v168 := Tryz.zeroValue377
  t171 := Tryz.underlying311
  a171 := Tryz.isAgg311
  z171 := Tryz.sizeOf311
  v171 := Tryz.zeroValue311
  t173 := Tryz.underlying315
  a173 := Tryz.isAgg315
  z173 := Tryz.sizeOf315
  v173 := Tryz.zeroValue315
  t175 := Tryz.underlying375
  a175 := Tryz.isAgg375
  z175 := Tryz.sizeOf375
  v175 := Tryz.zeroValue375
  t210 := Tryz.underlying403
  a210 := Tryz.isAgg403
  z210 := Tryz.sizeOf403
  v210 := Tryz.zeroValue403
  t212 := Tryz.underlying359
  a212 := Tryz.isAgg359
  z212 := Tryz.sizeOf359
  v212 := Tryz.zeroValue359
  t213 := Tryz.underlying361
  a213 := Tryz.isAgg361
  z213 := Tryz.sizeOf361
  t232 := Tryz.underlying410
  a232 := Tryz.isAgg410
  z232 := Tryz.sizeOf410
  v232 := Tryz.zeroValue410
  t233 := Tryz.underlying411
  a233 := Tryz.isAgg411
  z233 := Tryz.sizeOf411
  v233 := Tryz.zeroValue411
  g15 := by kernel_rfl
  g16 := by kernel_rfl
  g17 := by kernel_rfl
  g18 := by kernel_rfl
  g19 := by kernel_rfl
  t80 := Tryz.underlying142
  a80 := Tryz.isAgg142
  z80 := Tryz.sizeOf142
  v80 := Tryz.zeroValue142
  i0 := by kernel_rfl
  i2 := by kernel_rfl
  i3 := by kernel_rfl
  i4 := by kernel_rfl
  i5 := by kernel_rfl
  i9 := by kernel_rfl
  i20 := by kernel_rfl
  i21 := by kernel_rfl
  i37 := by kernel_rfl
  i46 := by kernel_rfl
  i51 := by kernel_rfl
  i53 := by kernel_rfl
  i75 := by kernel_rfl
  i80 := by kernel_rfl
  i85 := by kernel_rfl
  i127 := by kernel_rfl
  i143 := by kernel_rfl
  i145 := by kernel_rfl
  i167 := by kernel_rfl
  i168 := by kernel_rfl
  i171 := by kernel_rfl
  i173 := by kernel_rfl
  i175 := by kernel_rfl
  i210 := by kernel_rfl
  i212 := by kernel_rfl
  i232 := by kernel_rfl
  i233 := by kernel_rfl
  m15 := by kernel_rfl
  m16 := by kernel_rfl
  m17 := by kernel_rfl
  m18 := by kernel_rfl
  m19 := by kernel_rfl
  c0 := by kernel_rfl
  c2 := by kernel_rfl
  c3 := by kernel_rfl
  c4 := by kernel_rfl
  c5 := by kernel_rfl
  c9 := by kernel_rfl
  c20 := by kernel_rfl
  c21 := by kernel_rfl
  c37 := by kernel_rfl
  c46 := by kernel_rfl
  c51 := by kernel_rfl
  c53 := by kernel_rfl
  c75 := by kernel_rfl
  c80 := by kernel_rfl
  c85 := by kernel_rfl
  c127 := by kernel_rfl
  c143 := by kernel_rfl
  c145 := by kernel_rfl
  c167 := by kernel_rfl
  c168 := by kernel_rfl
  c171 := by kernel_rfl
  c173 := by kernel_rfl
  c175 := by kernel_rfl
  c210 := by kernel_rfl
  c212 := by kernel_rfl
  c213 := by kernel_rfl
  c232 := by kernel_rfl
  c233 := by kernel_rfl }
open Go.RowKit in
theorem Tryz.strconv_ParseInt_10_at64_ok (s : ByteArray) (hmax : s.size ≤ 9223372036854775806) (v : Int) (h : Lib.parseIntB 64 s.data.toList = .ok v) (w : World) :
    Calls Tryz.prog 188 #[.string s, .int .i64 10, .int .i64 64] w fun e w' => e = .returned (.tuple #[.int .i64 v, .nilIface]) ∧ (w' = w ∨ ∃ t, w' = Lib.bytesWorld w 5 t) := Any.strconv_ParseInt_10_at64_ok Tryz.laysC174 s hmax v h w
def Tryz.lays157_ren : Go.Shelf.Ren := ⟨fun | 157 => 239 | 229 => 280 | 199 => 281 | 261 => 307 | 311 => 320 | 312 => 321 | n => n, fun | 9 => 9 | 31 => 93 | 3 => 3 | 5 => 5 | 4 => 4 | 119 => 371 | 0 => 0 | 40 => 373 | 152 => 395 | 21 => 21 | 154 => 397 | 51 => 360 | 141 => 399 | 196 => 417 | 193 => 414 | 198 => 420 | 49 => 418 | 194 => 415 | 201 => 423 | 226 => 428 | 46 => 363 | 227 => 429 | n => n, fun | 0 => 2 | 6 => 5 | n => n⟩
theorem Tryz.lays157 : Go.Proofs.Lays.n157 Tryz.prog Tryz.lays157_ren := {
  mixed := by kernel_rfl
  f157 := Tryz.func239.trans (congrArg some (by kernel_rfl))
  f199 := Tryz.func281.trans (congrArg some (by kernel_rfl))
  f229 := Tryz.func280.trans (congrArg some (by kernel_rfl))
  f261 := Tryz.func307.trans (congrArg some (by kernel_rfl))
  f311 := Tryz.func320.trans (congrArg some (by kernel_rfl))
  f312 := Tryz.func321.trans (congrArg some (by kernel_rfl))
  t0 := Tryz.underlying0
  a0 := Tryz.isAgg0
  z0 := Tryz.sizeOf0
  v0 := Tryz.zeroValue0
  t3 := Tryz.underlying3
  a3 := Tryz.isAgg3
  z3 := Tryz.sizeOf3
  v3 := Tryz.zeroValue3
  t4 := Tryz.underlying4
  a4 := Tryz.isAgg4
  z4 := Tryz.sizeOf4
  v4 := Tryz.zeroValue4
  t5 := Tryz.underlying5
  a5 := Tryz.isAgg5
  z5 := Tryz.sizeOf5
  v5 := Tryz.zeroValue5
  t9 := Tryz.underlying9
  a9 := Tryz.isAgg9
  z9 := Tryz.sizeOf9
  v9 := Tryz.zeroValue9
  t21 := Tryz.underlying21
  a21 := Tryz.isAgg21
  z21 := Tryz.sizeOf21
  v21 := Tryz.zeroValue21
  t31 := Tryz.underlying93
  a31 := Tryz.isAgg93
  z31 := Tryz.sizeOf93
  v31 := Tryz.zeroValue93
  t40 := Tryz.underlying373
  a40 := Tryz.isAgg373
  z40 := Tryz.sizeOf373
  v40 := Tryz.zeroValue373
  t46 := Tryz.underlying363
  a46 := Tryz.isAgg363
  z46 := Tryz.sizeOf363
  v46 := Tryz.zeroValue363
  t49 := Tryz.underlying418
  a49 := Tryz.isAgg418
  z49 := Tryz.sizeOf418
  v49 := Tryz.zeroValue418
  t51 := Tryz.underlying360
  a51 := Tryz.isAgg360
  z51 := Tryz.sizeOf360
  v51 := Tryz.zeroValue360
  t119 := Tryz.underlying371
  a119 := Tryz.isAgg371
  z119 := Tryz.sizeOf371
  t141 := Tryz.underlying399
  a141 := Tryz.isAgg399
  z141 := Tryz.sizeOf399
  v141 := Tryz.zeroValue399
  t152 := Tryz.underlying395
  a152 := Tryz.isAgg395
  z152 := Tryz.sizeOf395
  v152 := Tryz.zeroValue395
  t154 := Tryz.underlying397
  a154 := Tryz.isAgg397
  z154 := Tryz.sizeOf397
  v154 := Tryz.zeroValue397
  t193 := Tryz.underlying414
  a193 := Tryz.isAgg414
  z193 := Tryz.sizeOf414
  v193 := Tryz.zeroValue414
  t194 := Tryz.underlying415
  a194 := Tryz.isAgg415
  z194 := Tryz.sizeOf415
  v194 := Tryz.zeroValue415
  t196 := Tryz.underlying417
  a196 := Tryz.isAgg417
  z196 := Tryz.sizeOf417
  v196 := Tryz.zeroValue417
  t198 := Tryz.underlying420
  a198 := Tryz.isAgg420
  z198 := Tryz.sizeOf420
  v198 := Tryz.zeroValue420
  t201 := Tryz.underlying423
  a201 := Tryz.isAgg423
  z201 := Tryz.sizeOf423
  v201 := Tryz.zeroValue423
  t226 := Tryz.underlying428
  a226 := Tryz.isAgg428
  z226 := Tryz.sizeOf428
  v226 := Tryz.zeroValue428
  t227 := Tryz.underlying429
  a227 := Tryz.isAgg429
  z227 := Tryz.sizeOf429
  v227 := Tryz.zeroValue429
  g0 := by kernel_rfl
  g6 := by kernel_rfl }
open Go.RowKit Go.Lib in
theorem Tryz.strings_Fields (s : ByteArray) (w : World) (hs : s.size < 4294967281) (hascii : ∀ (j : Nat) b, s.data.toList[j]? = some b → b.toNat < 128) (htab : Lib.TabIs Tryz.prog w "strings.asciiSpace" .u8 Lib.asciiSpaceTab) :
    Calls Tryz.prog 239 #[.string s] w fun e w' =>
      e = .returned (.slice (some ⟨w.heap.size, 0, none⟩) (Lib.fields s.data.toList).length (Lib.fields s.data.toList).length) ∧ w' = w.alloc (.cells ((Lib.fields s.data.toList).map fun l => Value.string ⟨l.toArray⟩).toArray 9) := Any.strings_Fields Tryz.lays157 (by kernel_rfl) (by kernel_rfl) s w hs hascii htab
end Go.Proofs
namespace Go.Proofs.YtmccpbcbofhmlaaGreatDoor
open Go Vc
set_option maxRecDepth 10000
def wordsL : List Bs := [[99, 114, 101, 97, 116, 101],
  [116, 97, 98, 108, 101],
  [118, 105, 101, 119],
  [97, 115],
  [105, 110, 115, 101, 114, 116],
  [105, 110, 116, 111],
  [118, 97, 108, 117, 101, 115],
  [100, 101, 108, 101, 116, 101],
  [102, 114, 111, 109],
  [119, 104, 101, 114, 101],
  [115, 104, 111, 119],
  [115, 101, 108, 101, 99, 116],
  [100, 105, 115, 116, 105, 110, 99, 116],
  [103, 114, 111, 117, 112],
  [98, 121],
  [104, 97, 118, 105, 110, 103],
  [117, 110, 105, 111, 110],
  [97, 108, 108],
  [101, 120, 99, 101, 112, 116],
  [111, 114, 100, 101, 114],
  [108, 105, 109, 105, 116],
  [106, 111, 105, 110],
  [108, 101, 102, 116],
  [115, 101, 109, 105],
  [97, 110, 116, 105],
  [111, 110],
  [97, 110, 100],
  [111, 114],
  [110, 111, 116],
  [105, 115],
  [110, 117, 108, 108],
  [116, 114, 117, 101],
  [102, 97, 108, 115, 101],
  [99, 97, 115, 101],
  [119, 104, 101, 110],
  [116, 104, 101, 110],
  [101, 108, 115, 101],
  [101, 110, 100],
  [99, 111, 97, 108, 101, 115, 99, 101],
  [99, 111, 117, 110, 116],
  [115, 117, 109],
  [109, 105, 110],
  [109, 97, 120],
  [105, 110, 116],
  [116, 101, 120, 116],
  [98, 111, 111, 108]]
def Glob (M : Mem) : Prop := ∀ g, Tryz.prog.globalNamed "strings.asciiSpace" = some g → M g = some (Lib.asciiSpaceTab.map fun z => Value.int .u8 z)
theorem Glob.ext {M M' : Mem} (h : Glob M) (he : Ext M M') : Glob M' := fun g hg => he _ _ (h g hg)
theorem Glob.tab {M : Mem} {w : World} (h : Glob M) (hw : Holds M w) : Lib.TabIs Tryz.prog w "strings.asciiSpace" .u8 Lib.asciiSpaceTab := by
  unfold Lib.TabIs World.var?
  cases hg : Tryz.prog.globalNamed "strings.asciiSpace" with
  | none => have h2 : (Tryz.prog.globalNamed "strings.asciiSpace").isSome = true := by kernel_rfl
            rw [hg] at h2; cases h2
  | some g =>
    obtain ⟨t, f, ht⟩ := hw g _ (h g hg)
    simp [ht]
theorem ct_Fields {M : Mem} (hg : Glob M) (s : Bs) (hs : s.length < 4294967281) (ha : s.all (fun b => b.toNat < 128) = true) :
    Ct Tryz.prog 239 [st s] M [] [] (fun r M' _ _ => ∃ b, r = .slice (some ⟨b, 0, none⟩) (Lib.fields s).length (Lib.fields s).length ∧ M' b = some ((Lib.fields s).map st)) noPan := by
  refine ct_alloc (t := 9) (cs := (Lib.fields s).map st) (fun b => .slice (some ⟨b, 0, none⟩) (Lib.fields s).length (Lib.fields s).length) bod239 fun w hw => ?_
  have ha' : ∀ (j : Nat) b, (bs s).data.toList[j]? = some b → b.toNat < 128 := fun j b hj => by
    have := List.all_eq_true.1 ha b (List.mem_of_getElem? (by simpa [bs] using hj))
    simpa using this
  have h2 := Tryz.strings_Fields (bs s) w (by rw [bs_size]; exact hs) ha' (hg.tab hw)
  have hd : (bs s).data.toList = s := by simp [bs]
  rw [hd] at h2
  exact h2
theorem ct_sql_words {M : Mem} (hg : Glob M) : Ct Tryz.prog 183 [] M [] [] (fun r M' _ _ => RS M' RSt 1 wordsL r) noPan := by
  intro T
  refine ct_run mx bod183 Tryz.func183 rfl (by rw [nt183]; exact Nat.le_of_ble_eq_true rfl) (dr := dr183) (by kernel_rfl) rs183 ?_
  intro hno _
  simp +contextual only [go_sem, Rcb, Rbk, sevalprocAttr]
  refine rCall_pure (ct_Fields hg _ (by decide) (by kernel_rfl) T) ?_ (fun _ _ _ _ h => h.elim)
  rintro v M' hM _ ⟨b, rfl, hb⟩
  simp +contextual only [go_sem, Rcb, Rbk, sevalprocAttr]
  refine end_none ExtT.rfl' ?_
  have hw : ∀ {s : Bs}, Lib.fields s = wordsL → M' b = some ((Lib.fields s).map st) → RS M' RSt 1 wordsL (.slice (some ⟨b, 0, none⟩) (Lib.fields s).length (Lib.fields s).length) := by
    intro s h1 h2
    rw [h1] at h2 ⊢
    exact RS_lit (fun _ _ => RSt_len) h2 (RL_strs _) rfl (by decide)
  exact hw (by kernel_rfl) hb
def chOk (i : Nat) (c : UInt8) : Bool := letterB c.toNat || (decide (i ≠ 0) && digitB c.toNat)
def okFrom : Nat → Bs → Bool
  | _, [] => true
  | i, c :: l => chOk i c && okFrom (i + 1) l
def namedB (s : Bs) : Bool := decide (1 ≤ s.length ∧ s.length ≤ 12) && !wordsL.contains s && okFrom 0 s
theorem byteAt_bs {s : Bs} {i : Nat} (h : i < s.length) : byteAt (bs s) i = s[i] := by
  simp [byteAt, bs, h]
theorem ct_Named {M : Mem} (hg : Glob M) (s : Bs) : Ct Tryz.prog 144 [st s] M [] [] (fun r _ _ _ => r = .bool (namedB s)) noPan := by
  intro T
  refine ct_run mx bod144 Tryz.func144 rfl (by rw [nt144]; exact Nat.le_of_ble_eq_true rfl) (dr := dr144) (by kernel_rfl) rs144 ?_
  intro hno _
  simp +contextual only [go_sem, Rcb, Rbk, sevalprocAttr]
  by_cases hl : (s.length : Int) < 1 ∨ 12 < (s.length : Int)
  · rw [if_pos hl]
    refine end_none ExtT.rfl' ?_
    have : ¬ (1 ≤ s.length ∧ s.length ≤ 12) := by omega
    simp [namedB, this]
  · rw [if_neg hl]
    have hle : 1 ≤ s.length ∧ s.length ≤ 12 := by omega
    refine rCall_pure (ct_sql_words hg T) ?_ (fun _ _ _ _ h => h.elim)
    rintro v M' hM _ hw
    simp +contextual only [go_sem, Rcb, Rbk, sevalprocAttr, hl]
    refine rCall_pure (ct_Contains s hw T) ?_ (fun _ _ _ _ h => h.elim)
    rintro v' M2 hM2 _ rfl
    simp +contextual only [go_sem, Rcb, Rbk, sevalprocAttr, hl]
    by_cases hc : wordsL.contains s = true
    · simp only [hc, go_sem, Rcb, Rbk, sevalprocAttr]
      refine end_none ExtT.rfl' ?_
      rw [namedB, hc]; simp
    · simp only [hc, go_sem, Rcb, Rbk, sevalprocAttr]
      refine loop_range s.length 20 [(0, st s), (19, .int .i64 s.length)] (fun i e h => h = ⟨T, M2, [], []⟩ ∧ okFrom 0 s = okFrom i (s.drop i)) 0 (by omega) (by simp only [live, go_sem, Rcb, Rbk, sevalprocAttr]) (by simp only [go_sem, Rcb, Rbk, sevalprocAttr]) ⟨rfl, rfl⟩ ?_
      rintro i e h hi hlv ht ⟨rfl, hres⟩
      simp only [live, st] at hlv
      by_cases hlt : i < s.length
      · have hx := byteAt_bs hlt
        have hdrop : s.drop i = s[i] :: s.drop (i + 1) := List.drop_eq_getElem_cons hlt
        rw [hdrop] at hres
        simp only [okFrom] at hres
        have h0 : ((i : Int) = 0) = (i = 0) := by simp
        simp +contextual only [go_sem, Rcb, Rbk, sevalprocAttr, hlv, ht, hlt, hx]
        by_cases hk : chOk i s[i] = true
        · rw [if_neg (by simp only [chOk, letterB, digitB, Bool.or_eq_true, Bool.and_eq_true, decide_eq_true_eq] at hk; omega)]
          refine lp_range hlt ?_ ?_ ⟨rfl, ?_⟩
          · simp only [live, hlv, go_sem, Rcb, Rbk, sevalprocAttr]
          · simp only [ht, go_sem, Rcb, Rbk, sevalprocAttr, wrap_succ i (by omega)]
          · rw [hres, hk]; rfl
        · rw [if_pos (by simp only [chOk, letterB, digitB, Bool.or_eq_true, Bool.and_eq_true, decide_eq_true_eq] at hk; omega)]
          refine end_none ExtT.rfl' ?_
          simp only [Bool.not_eq_true] at hk
          rw [namedB, hres, hk]; simp
      · have : i = s.length := by omega
        subst this
        simp +contextual only [go_sem, Rcb, Rbk, sevalprocAttr, hlv, ht, hlt]
        refine end_none ExtT.rfl' ?_
        have : okFrom 0 s = true := by rw [hres]; simp [okFrom]
        simp only [Bool.not_eq_true] at hc
        rw [namedB, hc, this]; simp [hle]
def nameM (en : Int) : List Tk → Rs Bs
  | [] => .err 2 en
  | t :: r => if t.k = 1 then (if namedB t.s = true then .ok t.s r else .err 7 t.at_) else .err 2 t.at_
theorem ct_p_name {M : Mem} {pb : Nat} {toks : List Tk} {lv : Value} {en op : Int} (hg : Glob M) (hl : RS M RTk 3 toks lv) :
    Ct Tryz.prog 95 [.pointer (some ⟨pb, 0, none⟩)] M (pL pb lv en op) [] (postP pb en op (fun s v _ => v = st s) (nameM en toks)) (panP pb en (nameM en toks)) := by
  intro T
  refine ct_run mx bod95 Tryz.func95 rfl (by rw [nt95]; exact Nat.le_of_ble_eq_true rfl) (dr := dr95) (by kernel_rfl) rs95 ?_
  intro hno _
  simp only [noneL_pL] at hno
  rcases toks_cases hl with ⟨rfl, a, c, rfl⟩ | ⟨t, r, b, o, c, rfl, rfl, hc, h0, h1, h2⟩
  · simp +contextual only [go_sem, Rcb, Rbk, sevalprocAttr, hno]
    refine at_p [] hl ?_
    simp +contextual only [go_sem, Rcb, Rbk, sevalprocAttr]
    exact fail_p [] ExtT.rfl' rfl
  · by_cases hk : t.k = 1
    · simp +contextual only [go_sem, Rcb, Rbk, sevalprocAttr, hno, h0, h1, h2, hk]
      refine rCall_pure (ct_Named hg t.s T) ?_ (fun _ _ _ _ h => h.elim)
      rintro v M3 hM3 hno3 rfl
      have hl3 := RS_ext hM3 (fun _ _ h => h) hl
      simp only [noneL_pL] at hno3
      by_cases hn : namedB t.s = true
      · have hc2 : (1 : Int) ≤ ((r.length + 1 : Nat) : Int) ∧ r.length + 1 ≤ c := ⟨by omega, hc⟩
        simp +contextual only [go_sem, Rcb, Rbk, sevalprocAttr, hn, hno3, hc2]
        refine end_id ExtT.rfl' rfl rfl ⟨t.s, r, _, ?_, rfl, ?_, rfl, rfl⟩
        · simp [nameM, hk, hn]
        · simpa using RS_cut (k := 1) (by decide) (fun _ _ => RTk_len) hl3 (by simp)
      · simp +contextual only [go_sem, Rcb, Rbk, sevalprocAttr, hn]
        refine at_p [] hl3 ?_
        simp +contextual only [go_sem, Rcb, Rbk, sevalprocAttr]
        exact fail_p [] ExtT.rfl' (by simp [nameM, hk, hn, atM])
    · simp +contextual only [go_sem, Rcb, Rbk, sevalprocAttr, hno, h0, h1, h2, hk]
      refine at_p [] hl ?_
      simp +contextual only [go_sem, Rcb, Rbk, sevalprocAttr]
      exact fail_p [] ExtT.rfl' (by simp [nameM, hk, atM])
def numM (s : Bs) : Nat := s.foldl (fun n c => n * 10 + (c.toNat - 48)) 0
theorem uintM (l : Bs) : ∀ (acc k : Nat), acc < 10 ^ k → k + l.length ≤ 16 → (l.all fun c => digitB c.toNat) = true →
    Lib.parseUintM (2 ^ 64 - 1) acc l = .ok (l.foldl (fun n c => n * 10 + (c.toNat - 48)) acc) ∧ l.foldl (fun n c => n * 10 + (c.toNat - 48)) acc < 10 ^ (k + l.length) := by
  induction l with
  | nil => intro acc k h _ _; exact ⟨rfl, by simpa using h⟩
  | cons c l ih =>
    intro acc k h hk hd
    simp only [List.all_cons, Bool.and_eq_true, digitB, decide_eq_true_eq] at hd
    simp only [List.length_cons] at hk
    have hc : 48 ≤ c.toNat ∧ c.toNat ≤ 57 := by omega
    have h16 : acc < 10 ^ 15 := Nat.lt_of_lt_of_le h (Nat.pow_le_pow_right (by decide) (by omega))
    have hn : acc * 10 + (c.toNat - 48) < 10 ^ (k + 1) := by rw [Nat.pow_succ]; omega
    have := ih (acc * 10 + (c.toNat - 48)) (k + 1) hn (by omega) (by simpa [digitB] using hd.2)
    simp only [Lib.parseUintM, if_pos hc, List.foldl_cons, List.length_cons]
    rw [if_neg (by omega), if_neg (by omega)]
    refine ⟨this.1, ?_⟩
    rw [show k + (l.length + 1) = k + 1 + l.length from by omega]
    exact this.2
theorem parse_num {s : Bs} (h : numOk s = true) : Lib.parseIntB 64 s = .ok (numM s : Int) ∧ numM s < 10 ^ 16 := by
  simp only [numOk, Bool.and_eq_true, decide_eq_true_eq] at h
  obtain ⟨⟨h1, h2⟩, h3⟩ := h
  obtain ⟨hu, hlt⟩ := uintM s 0 0 (by decide) (by omega) h3
  have hlt2 : numM s < 10 ^ 16 := Nat.lt_of_lt_of_le hlt (Nat.pow_le_pow_right (by decide) (by omega))
  refine ⟨?_, hlt2⟩
  cases s with
  | nil => simp at h1
  | cons c r =>
    simp only [List.all_cons, Bool.and_eq_true, digitB, decide_eq_true_eq] at h3
    have hc : ¬ (c.toNat = 43 ∨ c.toNat = 45) := by omega
    have hc2 : ¬ c.toNat = 45 := by omega
    unfold Lib.parseIntB
    simp only [if_neg hc, Lib.parseUintB, if_neg (List.cons_ne_nil c r), hu]
    have : ¬ (2 ^ (64 - 1) ≤ numM (c :: r)) := by omega
    simp only [hc2, not_false_eq_true, true_and, false_and, if_false]
    change ¬ (2 ^ (64 - 1) ≤ List.foldl (fun n c => n * 10 + (c.toNat - 48)) 0 (c :: r)) at this
    rw [if_neg this]
    rfl
theorem ct_ParseInt {M : Mem} {s : Bs} (h : numOk s = true) : Ct Tryz.prog 188 [st s, .int .i64 10, .int .i64 64] M [] [] (fun r M' _ _ => r = .tuple #[.int .i64 (numM s), .nilIface] ∧ M' = M) noPan := by
  refine ct_same bod188 fun w hw => ?_
  have hl : s.length ≤ 16 := by
    simp only [numOk, Bool.and_eq_true, decide_eq_true_eq] at h
    exact h.1.2
  have hd : (bs s).data.toList = s := by simp [bs]
  refine Calls.mono (Tryz.strconv_ParseInt_10_at64_ok (bs s) (by rw [bs_size]; omega) (numM s) (by rw [hd]; exact (parse_num h).1) w) ?_
  rintro e w' ⟨rfl, hw'⟩
  refine ⟨rfl, ?_⟩
  rcases hw' with rfl | ⟨t, rfl⟩
  · exact Keeps.rfl'
  · exact Keeps.bytes
def minus : Bs := [45]
def intT (neg : Bool) (at0 en : Int) : List Tk → Rs Int
  | [] => .err 2 en
  | t :: r => if t.k = 2 then (if (numM t.s : Int) > 1000000000000000 then .err 3 at0 else .ok (if neg = true then -(numM t.s : Int) else numM t.s) r) else .err 2 t.at_
def intM (en : Int) (toks : List Tk) : Rs Int := intT (seesM minus toks) (atM en toks) en (if seesM minus toks = true then toks.tail else toks)
theorem ct_p_int {M : Mem} {pb : Nat} {toks : List Tk} {lv : Value} {en op : Int} (hl : RS M RTk 3 toks lv) :
    Ct Tryz.prog 148 [.pointer (some ⟨pb, 0, none⟩)] M (pL pb lv en op) [] (postP pb en op (fun n v _ => v = .int .i64 n) (intM en toks)) (panP pb en (intM en toks)) := by
  intro T
  refine ct_run mx bod148 Tryz.func148 rfl (by rw [nt148]; exact Nat.le_of_ble_eq_true rfl) (dr := dr148) (by kernel_rfl) rs148 ?_
  intro hno _
  simp only [noneL_pL] at hno
  simp +contextual only [go_sem, Rcb, Rbk, sevalprocAttr]
  refine at_p [] hl ?_
  simp +contextual only [go_sem, Rcb, Rbk, sevalprocAttr]
  refine is_p [] minus hl ?_
  intro lv' hl'
  generalize hg : (if seesM minus toks = true then toks.tail else toks) = toks1 at hl'
  have hres : intM en toks = intT (seesM minus toks) (atM en toks) en toks1 := by unfold intM; rw [hg]
  rcases toks_cases hl' with ⟨rfl, a, c, rfl⟩ | ⟨t, r, b, o, c, rfl, rfl, hc, h0, h1, h2⟩
  · simp +contextual only [go_sem, Rcb, Rbk, sevalprocAttr, hno]
    refine at_p [] hl' ?_
    simp +contextual only [go_sem, Rcb, Rbk, sevalprocAttr]
    exact fail_p [] ExtT.rfl' hres
  · by_cases hk : t.k = 2
    · simp +contextual only [go_sem, Rcb, Rbk, sevalprocAttr, hno, h0, h1, h2, hk]
      have hnum := toks_num hl' hk
      have hlt := (parse_num hnum).2
      refine rCall_pure (ct_ParseInt hnum T) ?_ (fun _ _ _ _ h => h.elim)
      rintro v M3 hM3 hno3 ⟨rfl, rfl⟩
      simp only [intT, hk, if_true] at hres
      by_cases hbig : (1000000000000000 : Int) < (numM t.s : Int)
      · simp +contextual only [go_sem, Rcb, Rbk, sevalprocAttr, hbig]
        exact fail_p [] ExtT.rfl' (by rw [hres, if_pos hbig])
      · have hc2 : (1 : Int) ≤ ((r.length + 1 : Nat) : Int) ∧ r.length + 1 ≤ c := ⟨by omega, hc⟩
        rw [if_neg hbig] at hres
        have hcut : RS M3 RTk 3 r (.slice (cutA (some ⟨b, o, none⟩) c 1 3) (r.length + 1 - 1) (c - 1)) := by simpa using RS_cut (k := 1) (by decide) (fun _ _ => RTk_len) hl' (by simp)
        by_cases hs : seesM minus toks = true
        · simp +contextual only [go_sem, Rcb, Rbk, sevalprocAttr, hbig, hno, hc2, hs]
          refine end_id ExtT.rfl' rfl rfl ⟨_, r, _, hres, rfl, ?_, rfl, ?_⟩
          · simpa using hcut
          · simp only [hs, if_true]
            rw [wrap_neg _ (by omega)]
        · simp +contextual only [go_sem, Rcb, Rbk, sevalprocAttr, hbig, hno, hc2, hs]
          refine end_id ExtT.rfl' rfl rfl ⟨_, r, _, hres, rfl, ?_, rfl, ?_⟩
          · simpa using hcut
          · simp only [hs, if_false]
            rfl
    · simp +contextual only [go_sem, Rcb, Rbk, sevalprocAttr, hno, h0, h1, h2, hk]
      refine at_p [] hl' ?_
      simp +contextual only [go_sem, Rcb, Rbk, sevalprocAttr]
      exact fail_p [] ExtT.rfl' (by simp [hres, intT, hk, atM])
def headIs (k : Int) : List Tk → Bool | [] => false | t :: _ => decide (t.k = k)
def textV : List Tk → V | [] => ⟨0, 0, []⟩ | t :: _ => ⟨4, 0, t.s⟩
def Rs.map {α β : Type} (f : α → β) : Rs α → Rs β
  | .ok a r => .ok (f a) r
  | .err e a => .err e a
  | .out => .out
def wNull : Bs := [110, 117, 108, 108]
def wTrue : Bs := [116, 114, 117, 101]
def wFalse : Bs := [102, 97, 108, 115, 101]
def valueM (en : Int) (toks : List Tk) : Rs (Option V) :=
  if seesM wNull toks = true then .ok (some ⟨1, 0, []⟩) toks.tail
  else if seesM wTrue toks = true then .ok (some ⟨2, 1, []⟩) toks.tail
  else if seesM wFalse toks = true then .ok (some ⟨2, 0, []⟩) toks.tail
  else if seesM minus toks = true ∨ headIs 2 toks = true then (intM en toks).map fun n => some ⟨3, n, []⟩
  else if headIs 3 toks = true then .ok (some (textV toks)) toks.tail
  else .ok none toks
def encV (o : Option V) (v : Value) (_ : Mem) : Prop := match o with
  | some x => v = .tuple #[.agg ⟨x.cs⟩, .bool true]
  | none => v = .tuple #[.agg ⟨(⟨0, 0, []⟩ : V).cs⟩, .bool false]
theorem ct_p_value {M : Mem} {pb : Nat} {toks : List Tk} {lv : Value} {en op : Int} (hl : RS M RTk 3 toks lv) :
    Ct Tryz.prog 151 [.pointer (some ⟨pb, 0, none⟩)] M (pL pb lv en op) [] (postP pb en op encV (valueM en toks)) (panP pb en (valueM en toks)) := by
  intro T
  refine ct_run mx bod151 Tryz.func151 rfl (by rw [nt151]; exact Nat.le_of_ble_eq_true rfl) (dr := dr151) (by kernel_rfl) rs151 ?_
  intro hno _
  simp only [noneL_pL] at hno
  simp +contextual only [go_sem, Rcb, Rbk, sevalprocAttr]
  intro b2 T2 hb2 hap hT hTb
  refine is_c [(b2, _)] wNull hl (fun hs1 lv1 hl1 => ?_) (fun hs1 lv1 hl1 => ?_)
  · simp +contextual only [go_sem, Rcb, Rbk, sevalprocAttr, hap, hb2, hno]
    exact Close_drop (end_id hT rfl rfl ⟨some ⟨1, 0, []⟩, toks.tail, lv1, by simp [valueM, hs1], rfl, hl1, rfl, rfl⟩)
  simp +contextual only [go_sem, Rcb, Rbk, sevalprocAttr]
  refine is_c [(b2, _)] wTrue hl1 (fun hs2 lv2 hl2 => ?_) (fun hs2 lv2 hl2 => ?_)
  · simp +contextual only [go_sem, Rcb, Rbk, sevalprocAttr, hap, hb2, hno]
    exact Close_drop (end_id hT rfl rfl ⟨some ⟨2, 1, []⟩, toks.tail, lv2, by simp [valueM, hs1, hs2], rfl, hl2, rfl, rfl⟩)
  simp +contextual only [go_sem, Rcb, Rbk, sevalprocAttr]
  refine is_c [(b2, _)] wFalse hl2 (fun hs3 lv3 hl3 => ?_) (fun hs3 lv3 hl3 => ?_)
  · simp +contextual only [go_sem, Rcb, Rbk, sevalprocAttr, hap, hb2, hno]
    exact Close_drop (end_id hT rfl rfl ⟨some ⟨2, 0, []⟩, toks.tail, lv3, by simp [valueM, hs1, hs2, hs3], rfl, hl3, rfl, rfl⟩)
  simp +contextual only [go_sem, Rcb, Rbk, sevalprocAttr]
  refine sees_p [(b2, _)] minus hl3 ?_
  have hval : valueM en toks = if seesM minus toks = true ∨ headIs 2 toks = true then (intM en toks).map fun n => some ⟨3, n, []⟩
    else if headIs 3 toks = true then .ok (some (textV toks)) toks.tail else .ok none toks := by simp [valueM, hs1, hs2, hs3]
  rcases toks_cases hl3 with ⟨rfl, a, c, rfl⟩ | ⟨t, r, b, o, c, rfl, rfl, hc, h0, h1, h2⟩
  · simp +contextual only [go_sem, Rcb, Rbk, sevalprocAttr, hap, hb2, hno, seesM]
    refine Close_drop (end_id hT rfl rfl ⟨none, [], _, ?_, rfl, hl3, rfl, rfl⟩)
    simp [hval, seesM, headIs]
  · by_cases hm : seesM minus (t :: r) = true ∨ t.k = 2
    · have hv : valueM en (t :: r) = (intM en (t :: r)).map fun n => some ⟨3, n, []⟩ := by
        rw [hval, if_pos]
        simpa [headIs] using hm
      simp +contextual only [go_sem, Rcb, Rbk, sevalprocAttr, hap, hb2, hno, h0, h1, h2, hm]
      refine part_p [(b2, _)] (ct_p_int hl3 T2) ?_ (fun c a M' lv' op' hM h => pan_p [(b2, _)] hT (by rw [hv, h]; rfl))
      rintro v M' n r' lv' hM hno' hres hl' rfl
      simp only [List.cons_append, List.nil_append, noneL, noneL_pL] at hno'
      simp +contextual only [go_sem, Rcb, Rbk, sevalprocAttr, hap, hno']
      exact Close_drop (end_id hT rfl rfl ⟨some ⟨3, n, []⟩, r', lv', by rw [hv, hres]; rfl, rfl, hl', rfl, rfl⟩)
    · have hv : valueM en (t :: r) = if t.k = 3 then .ok (some ⟨4, 0, t.s⟩) r else .ok none (t :: r) := by
        rw [hval, if_neg (by simpa [headIs] using hm)]
        simp [headIs, textV]
      simp only [not_or] at hm
      simp +contextual only [go_sem, Rcb, Rbk, sevalprocAttr, hap, hb2, hno, h0, h1, h2, hm]
      by_cases hk : t.k = 3
      · have hc2 : (1 : Int) ≤ ((r.length + 1 : Nat) : Int) ∧ r.length + 1 ≤ c := ⟨by omega, hc⟩
        rw [if_pos hk] at hv
        simp +contextual only [go_sem, Rcb, Rbk, sevalprocAttr, hap, hb2, hno, h0, h1, h2, hm, hk]
        intro b4 T4 hb4 hap4 hT4 hTb4
        simp +contextual only [go_sem, Rcb, Rbk, sevalprocAttr, hap, hb2, hno, h0, h1, h2, hm, hk, hb4, hap4, hc2]
        refine Close_drop (Close_drop (end_id (hT.trans hT4) rfl rfl ⟨_, r, _, hv, rfl, ?_, rfl, rfl⟩))
        simpa using RS_cut (k := 1) (by decide) (fun _ _ => RTk_len) hl3 (by simp)
      · rw [if_neg hk] at hv
        simp +contextual only [go_sem, Rcb, Rbk, sevalprocAttr, hap, hb2, hno, h0, h1, h2, hm, hk]
        exact Close_drop (end_id hT rfl rfl ⟨none, t :: r, _, hv, rfl, hl3, rfl, rfl⟩)
theorem ctd_into1 {M : Mem} {pb b : Nat} {lv : Value} {en op : Int} (hb : M b = some [.pointer (some ⟨pb, 0, none⟩)]) (T : Tm) :
    CtD Tryz.prog 189 [.pointer (some ⟨b, 0, none⟩)] T M (pL pb lv en op) [] (fun _ M' L' _ => M' = M ∧ L' = pL pb lv en (IntKind.i64.wrap (op - 1))) noPan := by
  refine ctd_run mx bod189 Tryz.func189 rfl (by rw [nt189]; exact Nat.le_of_ble_eq_true rfl) (dr := dr189) (by kernel_rfl) rs189 ?_
  intro hno _
  simp only [noneL_pL] at hno
  simp +contextual only [go_sem, Rcb, Rbk, sevalprocAttr, mcell_some hb, hno]
  refine end_id ExtT.rfl' rfl rfl ?_
  exact ⟨rfl, rfl⟩
theorem ct_into {M : Mem} {pb : Nat} {toks : List Tk} {lv : Value} {en op : Int} (hl : RS M RTk 3 toks lv) (h0 : 0 ≤ op) (h1 : op ≤ 1000) :
    Ct Tryz.prog 152 [.pointer (some ⟨pb, 0, none⟩)] M (pL pb lv en op) [] (fun r M' L' _ => op + 1 ≤ 100 ∧ L' = pL pb lv en (op + 1) ∧ ∃ b, r = .func (.func 189) #[] #[.pointer (some ⟨b, 0, none⟩)] ∧ M' b = some [.pointer (some ⟨pb, 0, none⟩)])
      (fun ch _ L' _ => ¬ op + 1 ≤ 100 ∧ ch = oopsV 4 (atM en toks) ∧ ∃ op', L' = pL pb lv en op') := by
  intro T
  refine ct_run mx bod152 Tryz.func152 rfl (by rw [nt152]; exact Nat.le_of_ble_eq_true rfl) (dr := dr152) (by kernel_rfl) rs152 ?_
  intro hno _
  simp only [noneL_pL] at hno
  simp +contextual only [go_sem, Rcb, Rbk, sevalprocAttr, hno]
  intro b T2 hb hap hT hTb
  have hw : IntKind.i64.wrap (op + 1) = op + 1 := wrap64 (by omega) (by omega)
  simp +contextual only [go_sem, Rcb, Rbk, sevalprocAttr, hno, hb, hap, hw]
  by_cases hbig : (100 : Int) < op + 1
  · simp +contextual only [go_sem, Rcb, Rbk, sevalprocAttr, hno, hb, hap, hw, hbig]
    refine at_p [(b, _)] hl ?_
    simp +contextual only [go_sem, Rcb, Rbk, sevalprocAttr]
    refine rCall_pure (ct_sql_fail 4 (atM en toks) M _) (fun _ _ _ _ h => h.elim) ?_
    rintro ch M4 hM4 hno4 rfl
    rw [fi_pan, panF_eq]
    refine Close_drop (end_id hT rfl rfl ?_)
    exact ⟨by omega, rfl, _, rfl⟩
  · simp +contextual only [go_sem, Rcb, Rbk, sevalprocAttr, hno, hb, hap, hw, hbig]
    refine Close_freeze fun he h1 h2 => ?_
    refine end_id hT rfl rfl ?_
    exact ⟨by omega, rfl, b, rfl, h1⟩
def mkX (k : Int) (kids : List X) : X := .mk k ⟨0, 0, []⟩ [] [] kids
def encX (x : X) (v : Value) (M : Mem) : Prop := ∃ cs, v = .agg ⟨cs⟩ ∧ RX M x cs
theorem RX_mk {M : Mem} {k : Int} {kids : List X} {s : Value} (h : RS M (RX M) 7 kids s) : RX M (mkX k kids) [.int .i64 k, .int .i64 0, .int .i64 0, st [], st [], st [], s] :=
  RX_iff.2 ⟨s, rfl, h⟩
theorem cells7 {cs : List Value} (h : cs.length = 7) : ∃ a b c d e f g, cs = [a, b, c, d, e, f, g] := by
  match cs, h with
  | [a, b, c, d, e, f, g], _ => exact ⟨a, b, c, d, e, f, g, rfl⟩
theorem RX_form {M : Mem} {x : X} {cs} (h : RX M x cs) : ∃ s, cs = [.int .i64 x.k, .int .i64 x.v.k, .int .i64 x.v.n, st x.v.t, st x.tab, st x.name, s] ∧ s.oneCell' = true ∧ RS M (RX M) 7 x.kids s := by
  obtain ⟨s, rfl, hs⟩ := RX_iff.1 h
  refine ⟨s, rfl, ?_, hs⟩
  obtain ⟨_, _, h2, _⟩ := hs
  rcases h2 with ⟨_, _, rfl, _⟩ | ⟨b, o, n, c, rfl, _⟩ <;> rfl
theorem ct_of {M : Mem} (k : Int) {x : X} {cs : List Value} (hx : RX M x cs) : Ct Tryz.prog 191 [.int .i64 k, .agg ⟨cs⟩] M [] [] (fun v M' _ _ => encX (mkX k [x]) v M') noPan := by
  intro T
  obtain ⟨s, rfl, h1, hs⟩ := RX_form hx
  refine ct_run mx bod191 Tryz.func191 rfl (by rw [nt191]; exact Nat.le_of_ble_eq_true rfl) (dr := dr191) (by kernel_rfl) rs191 ?_
  intro hno _
  simp +contextual only [go_sem, Rcb, Rbk, sevalprocAttr]
  intro b T1 hb hT1 hTb b1 T2 hb1 hap1 hT2 hTb1 b2 hb2 hap2
  refine Close_freeze fun he hM _ => ?_
  refine end_none (hT1.trans hT2) ?_
  refine ⟨_, rfl, RX_mk ?_⟩
  exact RS_lit (l := [x]) (fun _ _ h => RX_len h) hM (RL_one (RX_ext he _ _ hx)) rfl (by decide)
theorem ct_two {M : Mem} (k : Int) {x y : X} {cs ds : List Value} (hx : RX M x cs) (hy : RX M y ds) : Ct Tryz.prog 193 [.int .i64 k, .agg ⟨cs⟩, .agg ⟨ds⟩] M [] [] (fun v M' _ _ => encX (mkX k [x, y]) v M') noPan := by
  intro T
  obtain ⟨s, rfl, h1, hs⟩ := RX_form hx
  obtain ⟨s', rfl, h1', hs'⟩ := RX_form hy
  refine ct_run mx bod193 Tryz.func193 rfl (by rw [nt193]; exact Nat.le_of_ble_eq_true rfl) (dr := dr193) (by kernel_rfl) rs193 ?_
  intro hno _
  simp +contextual only [go_sem, Rcb, Rbk, sevalprocAttr]
  intro b T1 hb hT1 hTb b1 T2 hb1 hap1 hT2 hTb1 b2 T3 hb2 hap2 hT3 hTb2 b3 hb3 hap3
  refine Close_freeze fun he hM _ => ?_
  refine end_none ((hT1.trans hT2).trans hT3) ?_
  refine ⟨_, rfl, RX_mk ?_⟩
  exact RS_lit (l := [x, y]) (fun _ _ h => RX_len h) hM (RL_append (RL_one (RX_ext he _ _ hx)) (RL_one (RX_ext he _ _ hy))) rfl (by decide)
structure Lvl where
  signs : List Bs
  kind : Int
  once : Bool
def RLvl (M : Mem) (l : Lvl) (cs : List Value) : Prop := ∃ s, RS M RSt 1 l.signs s ∧ (l.signs = [] → s = .slice none 0 0) ∧ (l.signs ≠ [] → ∃ b n, s = .slice (some ⟨b, 0, none⟩) n n) ∧ cs = [s, .int .i64 l.kind, .bool l.once]
theorem RLvl_len {M : Mem} {l : Lvl} {cs} (h : RLvl M l cs) : cs.length = 3 := by obtain ⟨_, _, _, _, rfl⟩ := h; rfl
def levelsL : List Lvl := [⟨[[111, 114]], 5, false⟩, ⟨[[97, 110, 100]], 4, false⟩, ⟨[], 0, false⟩, ⟨[[61], [60, 62], [60], [60, 61], [62], [62, 61]], 6, true⟩, ⟨[[43], [45]], 12, false⟩, ⟨[[42]], 14, false⟩, ⟨[[124, 124]], 15, false⟩]
theorem RLvl_mk {M : Mem} {l : List Bs} {k : Int} {o : Bool} {b n : Nat} (h : M b = some (l.map st)) (hl : l.length = n) (hn : n ≤ 100) (hne : l ≠ []) : RLvl M ⟨l, k, o⟩ [.slice (some ⟨b, 0, none⟩) n n, .int .i64 k, .bool o] :=
  ⟨_, RS_lit (fun _ _ => RSt_len) h (RL_strs l) hl (by omega), fun h => (hne h).elim, fun _ => ⟨b, n, rfl⟩, rfl⟩
theorem ct_levels {M : Mem} : Ct Tryz.prog 180 [] M [] [] (fun v M' _ _ => RS M' (RLvl M') 3 levelsL v) noPan := by
  intro T
  refine ct_run mx bod180 Tryz.func180 rfl (by rw [nt180]; exact Nat.le_of_ble_eq_true rfl) (dr := dr180) (by kernel_rfl) rs180 ?_
  intro hno _
  simp +contextual only [go_sem, Rcb, Rbk, sevalprocAttr]
  intro b0 h0 b1 h1 a1 b2 h2 a2 b3 h3 a3 b4 h4 a4 b5 h5 a5 b6 h6 a6
  refine Close_frzAll fun M' he hM => ?_
  obtain ⟨k6, k5, k4, k3, k2, k1, k0, _⟩ := hM
  refine end_none ExtT.rfl' ?_
  refine RS_lit (l := levelsL) (fun _ _ h => RLvl_len h) k6 ?_ rfl (by decide)
  refine ⟨_, _, rfl, RLvl_mk k0 rfl (by decide) (by decide), _, _, rfl, RLvl_mk k1 rfl (by decide) (by decide), [_, _, _], _, rfl, ⟨.slice none 0 0, ⟨by decide, [], .inl ⟨none, 0, rfl, rfl, fun _ => rfl⟩, rfl⟩, fun _ => rfl, fun h => (h rfl).elim, rfl⟩, _, _, rfl, RLvl_mk k2 rfl (by decide) (by decide), _, _, rfl, RLvl_mk k3 rfl (by decide) (by decide),
    _, _, rfl, RLvl_mk k4 rfl (by decide) (by decide), _, _, rfl, RLvl_mk k5 rfl (by decide) (by decide), rfl⟩
def idxSign : List Bs → List Tk → Option Nat
  | [], _ => none
  | s :: l, t => if seesM s t = true then some 0 else (idxSign l t).map (· + 1)
def signI (o : Option Nat) : Int := match o with | some j => j | none => -1
def signT (o : Option Nat) (t : List Tk) : List Tk := match o with | some _ => t.tail | none => t
theorem ct_IndexFunc {M : Mem} {pb : Nat} {toks : List Tk} {lv sv : Value} {en op : Int} {l : List Bs} (hl : RS M RTk 3 toks lv) (hs : RS M RSt 1 l sv) :
    Ct Tryz.prog 192 [sv, .func (.func 94) #[.pointer (some ⟨pb, 0, none⟩)] #[]] M (pL pb lv en op) []
      (fun v M' L' _ => v = .int .i64 (signI (idxSign l toks)) ∧ M' = M ∧ ∃ lv', L' = pL pb lv' en op ∧ RS M RTk 3 (signT (idxSign l toks) toks) lv') noPan := by
  intro T
  obtain ⟨hb, a, c, rfl, hle, _, hget⟩ := RS_elim (by decide) (fun _ _ => RSt_len) hs
  refine ct_run mx bod192 Tryz.func192 rfl (by rw [nt192]; exact Nat.le_of_ble_eq_true rfl) (dr := dr192) (by kernel_rfl) rs192 ?_
  intro hno _
  simp only [noneL_pL] at hno
  simp +contextual only [go_sem, Rcb, Rbk, sevalprocAttr]
  refine loop_range l.length 8 [(0, .slice a l.length c), (1, .func (.func 94) #[.pointer (some ⟨pb, 0, none⟩)] #[]), (6, .slice a l.length c), (7, .int .i64 l.length)] (fun i e h => (∃ lv', h = ⟨T, M, pL pb lv' en op, []⟩ ∧ RS M RTk 3 toks lv') ∧ idxSign l toks = (idxSign (l.drop i) toks).map (· + i)) 0 (by omega) (by simp only [live, go_sem, Rcb, Rbk, sevalprocAttr]) (by simp only [go_sem, Rcb, Rbk, sevalprocAttr]) ⟨⟨lv, rfl, hl⟩, by simp⟩ ?_
  rintro i e h hi hlv ht ⟨⟨lv', rfl, hl'⟩, hres⟩
  simp only [live] at hlv
  by_cases hlt : i < l.length
  · obtain ⟨b, o, cs, rfl, hat, hrs⟩ := hget i l[i] (List.getElem?_eq_getElem hlt)
    unfold RSt at hrs; subst hrs
    have hx := hat.1
    rw [Nat.mul_one] at hx
    have hdrop : l.drop i = l[i] :: l.drop (i + 1) := List.drop_eq_getElem_cons hlt
    rw [hdrop] at hres
    simp +contextual only [go_sem, Rcb, Rbk, sevalprocAttr, hlv, ht, hlt, hx]
    refine is_c [] l[i] hl' (fun hs lv2 hl2 => ?_) (fun hs lv2 hl2 => ?_)
    · simp +contextual only [go_sem, Rcb, Rbk, sevalprocAttr, hlv, ht]
      refine end_id ExtT.rfl' rfl rfl ?_
      have : idxSign l toks = some i := by rw [hres]; simp [idxSign, hs]
      rw [this]
      exact ⟨rfl, rfl, lv2, rfl, hl2⟩
    · simp +contextual only [go_sem, Rcb, Rbk, sevalprocAttr, hlv, ht]
      refine lp_range hlt ?_ ?_ ⟨⟨lv2, rfl, hl2⟩, ?_⟩
      · simp only [live, hlv, go_sem, Rcb, Rbk, sevalprocAttr]
      · simp only [ht, go_sem, Rcb, Rbk, sevalprocAttr, wrap_succ i (by omega)]
      · rw [hres]
        simp only [idxSign, hs, Bool.false_eq_true, if_false, Option.map_map]
        congr 1
        funext n
        simp only [Function.comp]; omega
  · have : i = l.length := by omega
    subst this
    simp +contextual only [go_sem, Rcb, Rbk, sevalprocAttr, hlv, ht, hlt]
    refine end_id ExtT.rfl' rfl rfl ?_
    have : idxSign l toks = none := by rw [hres]; simp [idxSign]
    rw [this]
    exact ⟨rfl, rfl, lv', rfl, hl'⟩
abbrev wCase : Bs := [99, 97, 115, 101]
abbrev wWhen : Bs := [119, 104, 101, 110]
abbrev wThen : Bs := [116, 104, 101, 110]
abbrev wElse : Bs := [101, 108, 115, 101]
abbrev wEnd : Bs := [101, 110, 100]
abbrev wCoal : Bs := [99, 111, 97, 108, 101, 115, 99, 101]
abbrev wCount : Bs := [99, 111, 117, 110, 116]
abbrev wSum : Bs := [115, 117, 109]
abbrev wMin : Bs := [109, 105, 110]
abbrev wMax : Bs := [109, 97, 120]
abbrev wNot : Bs := [110, 111, 116]
abbrev wIs : Bs := [105, 115]
abbrev sOpen : Bs := [40]
abbrev sClose : Bs := [41]
abbrev sComma : Bs := [44]
abbrev sStar : Bs := [42]
abbrev sDot : Bs := [46]
abbrev sSemi : Bs := [59]
def Rs.bind {α β : Type} (r : Rs α) (f : α → List Tk → Rs β) : Rs β := match r with
  | .ok a t => f a t
  | .err e a => .err e a
  | .out => .out
section
variable {α β : Type} {T N : Tm} {M : Mem} {R : RR} {dr : List (Nat × Sched)} {ts : List ResultVar} {post : PostP} {pb : Nat} {lv0 lv : Value} {en op0 op : Int} {d : Option Nat} {s : List Vc.Item} {e : Env} {toks : List Tk} {L1 : LL}
theorem part_b {f : FuncId} {args : List Value} {enc : α → Value → Mem → Prop} {res : Rs β} {g : Rs α} {Fk : α → List Tk → Rs β} (L1 : LL) (hT : ExtT T N) (hp : res = g.bind Fk) (hne : res ≠ .out)
    (hc : g ≠ .out → CtT Tryz.prog f args N M (pL pb lv en op) [] (postP pb en op enc g) (panP pb en g))
    (k : ∀ v M' a r lv', Ext M M' → noneL M' (L1 ++ pL pb lv' en op) → res = Fk a r → RS M' RTk 3 r lv' → enc a v M' →
      Run Tryz.prog (fi Tryz.prog T dr ts (keys (pL pb lv0 en op0)) 0 post (panP pb en res)) s (updo e d v) [] ⟨N, M', L1 ++ pL pb lv' en op, R⟩ ⟨⟩) :
    rCall Tryz.prog (fi Tryz.prog T dr ts (keys (pL pb lv0 en op0)) 0 post (panP pb en res)) f args d s e [] ⟨N, M, L1 ++ pL pb lv en op, R⟩ ⟨⟩ := by
  have hg : g ≠ .out := fun h => hne (by rw [hp, h]; rfl)
  refine part_p L1 (hc hg) (fun v M' a r lv' hM hno hres hr he => k v M' a r lv' hM hno (by rw [hp, hres]; rfl) hr he) ?_
  intro c a M' lv' op' hM hres
  exact pan_p L1 hT (by rw [hp, hres]; rfl)
theorem need_b {res : Rs β} {Fk : Unit → List Tk → Rs β} (L1 : LL) {x : Bs} {b : Nat} (hT : ExtT T N) (hp : res = (needM en [x] toks).bind Fk) (hl : RS M RTk 3 toks lv)
    (k : ∀ M' lv', Ext M M' → noneL M' (L1 ++ pL pb lv' en op) → res = Fk () toks.tail → RS M' RTk 3 toks.tail lv' →
      Run Tryz.prog (fi Tryz.prog T dr ts (keys (pL pb lv0 en op0)) 0 post (panP pb en res)) s (updo e d (.tuple #[])) [] ⟨N, M', L1 ++ pL pb lv' en op, R⟩ ⟨⟩) :
    rCall Tryz.prog (fi Tryz.prog T dr ts (keys (pL pb lv0 en op0)) 0 post (panP pb en res)) 51 [.pointer (some ⟨pb, 0, none⟩), .slice (some ⟨b, 0, none⟩) 1 1] d s e [] ⟨N, M, (b, [.string (bs x)]) :: (L1 ++ pL pb lv en op), R⟩ ⟨⟩ := by
  refine rCall_frz bod51 fun M1 hM1 hb hno1 => ?_
  have hl1 := RS_ext hM1 (fun _ _ h => h) hl
  have hs : RS M1 RSt 1 [x] (.slice (some ⟨b, 0, none⟩) 1 1) := RS_lit (fun _ _ => RSt_len) hb (RL_strs [x]) rfl (by decide)
  refine part_p L1 (ct_p_need hl1 hs N) ?_ ?_
  · rintro v M' a r lv' hM hno hres hr rfl
    have hr2 : r = toks.tail := by
      simp only [needM] at hres
      split at hres
      · injection hres with _ h; exact h.symm
      · cases hres
    subst hr2
    exact k M' lv' (hM1.trans hM) hno (by rw [hp, hres]; rfl) hr
  · intro c a M' lv' op' hM hres
    exact pan_p L1 hT (by rw [hp, hres]; rfl)
end
def litX (v : V) : X := .mk 1 v [] [] []
def pieceM (en : Int) (ex : List Tk → Rs X) (toks : List Tk) : Rs X :=
  (valueM en toks).bind fun v t => match v with
    | some v => .ok (litX v) t
    | none =>
      if seesM sOpen t = true then (ex t.tail).bind fun x t => (needM en [sClose] t).bind fun _ t => .ok x t
      else if seesM wCase t = true then (needM en [wWhen] t.tail).bind fun _ t => (ex t).bind fun a t => (needM en [wThen] t).bind fun _ t => (ex t).bind fun b t =>
        (needM en [wElse] t).bind fun _ t => (ex t).bind fun c t => (needM en [wEnd] t).bind fun _ t => .ok (mkX 17 [a, b, c]) t
      else if seesM wCoal t = true then (needM en [sOpen] t.tail).bind fun _ t => (ex t).bind fun a t => (needM en [sComma] t).bind fun _ t => (ex t).bind fun b t => (needM en [sClose] t).bind fun _ t => .ok (mkX 18 [a, b]) t
      else if seesM wCount t = true then (needM en [sOpen] t.tail).bind fun _ t =>
        if seesM sStar t = true then (needM en [sClose] t.tail).bind fun _ t => .ok (mkX 19 []) t
        else (ex t).bind fun a t => (needM en [sClose] t).bind fun _ t => .ok (mkX 20 [a]) t
      else match idxSign [wSum, wMin, wMax] t with
        | some i => (needM en [sOpen] t.tail).bind fun _ t => (ex t).bind fun a t => (needM en [sClose] t).bind fun _ t => .ok (mkX (21 + i) [a]) t
        | none => (nameM en t).bind fun n t => if seesM sDot t = true then (nameM en t.tail).bind fun m t => .ok (.mk 2 ⟨0, 0, []⟩ n m []) t else .ok (.mk 2 ⟨0, 0, []⟩ [] n []) t
def ExC (en : Int) (pb : Nat) (ex : List Tk → Rs X) (op : Int) : Prop := ∀ (M : Mem) (toks : List Tk) (lv : Value) (T : Tm), Glob M → RS M RTk 3 toks lv → ex toks ≠ .out →
  CtT Tryz.prog 101 [.pointer (some ⟨pb, 0, none⟩)] T M (pL pb lv en op) [] (postP pb en op encX (ex toks)) (panP pb en (ex toks))
theorem RX_lit {M : Mem} (v : V) : RX M (litX v) [.int .i64 1, .int .i64 v.k, .int .i64 v.n, st v.t, st [], st [], .slice none 0 0] :=
  RX_iff.2 ⟨.slice none 0 0, rfl, Nat.zero_le _, [], .inl ⟨_, _, rfl, rfl, fun _ => rfl⟩, rfl⟩
theorem RX_oneC {M : Mem} {x : X} {cs : List Value} (h : RX M x cs) : ∀ u ∈ cs, u.oneCell' = true := by
  obtain ⟨s, rfl, h1, _⟩ := RX_form h
  intro u hu
  simp only [List.mem_cons, List.not_mem_nil, or_false] at hu
  rcases hu with rfl | rfl | rfl | rfl | rfl | rfl | rfl <;> first | rfl | exact h1
theorem len_le {a b : List Value} {n : Nat} (ha : a.length + b.length = n) (hn : n ≤ 4294967296) : a.length + b.length ≤ 4294967296 := by omega
theorem ct_piece {M : Mem} {pb : Nat} {toks : List Tk} {lv : Value} {en op : Int} {ex : List Tk → Rs X} (hg : Glob M) (hl : RS M RTk 3 toks lv) (hex : ExC en pb ex op) (hne : pieceM en ex toks ≠ .out) (T : Tm) :
    CtT Tryz.prog 190 [.pointer (some ⟨pb, 0, none⟩)] T M (pL pb lv en op) [] (postP pb en op encX (pieceM en ex toks)) (panP pb en (pieceM en ex toks)) := by
  refine ct_run mx bod190 Tryz.func190 rfl (by rw [nt190]; exact Nat.le_of_ble_eq_true rfl) (dr := dr190) (by kernel_rfl) rs190 ?_
  intro hno _
  simp only [noneL_pL] at hno
  simp +contextual only [go_sem, Rcb, Rbk, sevalprocAttr]
  intro b2 T2 hb2 hap2 hT2 hTb2
  refine part_b [(b2, _)] hT2 rfl hne (fun _ => ct_p_value hl T2) ?_
  intro v M1 o t lv1 hM1 hno1 hres hl1 hv
  have hg1 := hg.ext hM1
  simp only [List.cons_append, List.nil_append, noneL, noneL_pL] at hno1
  cases o with
  | some x =>
    simp only [encV] at hv; subst hv
    simp +contextual only [go_sem, Rcb, Rbk, sevalprocAttr, hno1, hap2, V.cs]
    intro b3 T3 hb3 hap3 hT3 hTb3
    refine Close_drop (Close_drop (end_id (hT2.trans hT3) rfl rfl ?_))
    exact ⟨litX x, t, lv1, hres, rfl, hl1, rfl, _, rfl, RX_lit x⟩
  | none =>
    simp only [encV] at hv; subst hv
    simp +contextual only [go_sem, Rcb, Rbk, sevalprocAttr, hno1, hap2, V.cs]
    intro b3 T3 hb3 hap3 hT3 hTb3
    simp only at hres
    have hT := hT2.trans hT3
    refine is_c [(b3, _), (b2, _)] sOpen hl1 (fun hs lv2 hl2 => ?_) (fun hs lv2 hl2 => ?_)
    · rw [if_pos hs] at hres
      simp +contextual only [go_sem, Rcb, Rbk, sevalprocAttr]
      refine part_b [(b3, _), (b2, _)] hT hres hne (fun h => hex M1 _ lv2 T3 hg1 hl2 h) ?_
      rintro v M2 x t2 lv3 hM2 hno2 hres hl3 ⟨cs, rfl, hx⟩
      obtain ⟨s, rfl, h1, _⟩ := RX_form hx
      simp only [List.cons_append, List.nil_append, noneL, noneL_pL] at hno2
      simp +contextual only [go_sem, Rcb, Rbk, sevalprocAttr, hno2, hap2, hap3, h1]
      intro b5 T5 hb5 hap5 hT5 hTb5 b6 hb6 hap6
      refine need_b [(b5, _), (b3, _), (b2, _)] (hT.trans hT5) hres hl3 ?_
      intro M3 lv4 hM3 hno3 hres hl4
      simp only [List.cons_append, List.nil_append, noneL, noneL_pL] at hno3
      simp +contextual only [go_sem, Rcb, Rbk, sevalprocAttr, hno3, hap2, hap3, hap5, h1]
      refine Close_drop (Close_drop (Close_drop (end_id (hT.trans hT5) rfl rfl ?_)))
      exact ⟨x, _, lv4, hres, rfl, hl4, rfl, _, rfl, RX_ext hM3 _ _ hx⟩
    rw [if_neg (by simp [hs])] at hres
    clear hs
    simp +contextual only [go_sem, Rcb, Rbk, sevalprocAttr]
    refine is_c [(b3, _), (b2, _)] wCase hl2 (fun hs lv3 hl3 => ?_) (fun hs lv3 hl3 => ?_)
    · rw [if_pos hs] at hres
      simp +contextual only [go_sem, Rcb, Rbk, sevalprocAttr]
      intro b4 hb4 hap4
      refine need_b [(b3, _), (b2, _)] hT hres hl3 ?_
      intro M2 lv4 hM2 hno2 hres hl4
      simp +contextual only [go_sem, Rcb, Rbk, sevalprocAttr]
      refine part_b [(b3, _), (b2, _)] hT hres hne (fun h => hex M2 _ lv4 T3 (hg1.ext hM2) hl4 h) ?_
      rintro v M3 x t2 lv5 hM3 hno3 hres hl5 ⟨cs, rfl, hx⟩
      obtain ⟨s, rfl, h1, _⟩ := RX_form hx
      simp only [List.cons_append, List.nil_append, noneL, noneL_pL] at hno3
      simp +contextual only [go_sem, Rcb, Rbk, sevalprocAttr, hno3, hap2, hap3, h1]
      intro bk hbk hapk b6 T6 hb6 hap6 hT6 hTb6 b7 hb7 hap7
      refine need_b [(b6, _), (bk, _), (b3, _), (b2, _)] (hT.trans hT6) hres hl5 ?_
      intro M4 lv6 hM4 hno4 hres hl6
      simp only [List.cons_append, List.nil_append, noneL, noneL_pL] at hno4
      simp +contextual only [go_sem, Rcb, Rbk, sevalprocAttr, hno4, hap2, hap3, hapk, hap6, h1]
      refine draw_at ⟨T, fun _ => none, [(b6, _)], []⟩ (Sub_hd hno4.1) ?_
      simp +contextual only [go_sem, Rcb, Rbk, sevalprocAttr, hno4, hap2, hap3, hapk, hap6, h1]
      refine part_b [(b6, _), (bk, _), (b3, _), (b2, _)] (hT.trans hT6) hres hne (fun h => hex M4 _ lv6 T6 (((hg1.ext hM2).ext hM3).ext hM4) hl6 h) ?_
      rintro v M5 y t3 lv7 hM5 hno5 hres hl7 ⟨cs, rfl, hy⟩
      obtain ⟨s', rfl, h1', _⟩ := RX_form hy
      simp only [List.cons_append, List.nil_append, noneL, noneL_pL] at hno5
      simp +contextual only [go_sem, Rcb, Rbk, sevalprocAttr, hno5, hap2, hap3, hapk, hap6, h1']
      refine ⟨Sub_hd hno5.1, ?_⟩
      intro b8 hb8 hap8
      refine ⟨Sub_hd2 hno5.1 (fun h => hap8.1.2 h), ?_⟩
      refine app_read row25 okt25 (.slice _ 1 _ _ _ Tryz.underlying25 (cells_own [] hb8 trivial rfl) (RX_oneC hy)) (cells_own [(b8, _), (b6, _)] hno5.2.1 ⟨⟨hap8.2.1.2, hap8.2.1.1⟩, ⟨hap6.1.2, hap6.1.1⟩, trivial⟩ rfl) (Nat.zero_lt_succ _) (len_le (n := 14) rfl (by decide)) ?_
      intro ra rm rc hrm
      have hb8' := hb8
      simp +contextual only [go_sem, Rcb, Rbk, sevalprocAttr, hno5, hap2, hap3, hapk, hap6, hap8]
      intro b9 hb9 hap9
      refine need_b [(b8, _), (b6, _), (bk, _), (b3, _), (b2, _)] (hT.trans hT6) hres hl7 ?_
      intro M6 lv8 hM6 hno6 hres hl8
      simp only [List.cons_append, List.nil_append, noneL, noneL_pL] at hno6
      simp +contextual only [go_sem, Rcb, Rbk, sevalprocAttr, hno6, hap2, hap3, hapk, hap6, hap8]
      refine draw_at ⟨T, fun _ => none, [(b6, _)], []⟩ (Sub_hd2 hno6.2.1 (fun h => hap8.1.2 h)) ?_
      simp +contextual only [go_sem, Rcb, Rbk, sevalprocAttr, hno6, hap2, hap3, hapk, hap6, hap8]
      refine part_b [(b8, _), (b6, _), (bk, _), (b3, _), (b2, _)] (hT.trans hT6) hres hne (fun h => hex M6 _ lv8 T6 ((((hg1.ext hM2).ext hM3).ext hM4).ext hM5 |>.ext hM6) hl8 h) ?_
      rintro v M7 z t4 lv9 hM7 hno7 hres hl9 ⟨cs, rfl, hz⟩
      obtain ⟨s'', rfl, h1'', _⟩ := RX_form hz
      simp only [List.cons_append, List.nil_append, noneL, noneL_pL] at hno7
      simp +contextual only [go_sem, Rcb, Rbk, sevalprocAttr, hno7, hap2, hap3, hapk, hap6, hap8, h1'']
      refine ⟨Sub_own [(b8, _)] hno7.2.1 ⟨⟨hap8.1.2, hap8.1.1⟩, trivial⟩, ?_⟩
      intro ba hba hapa
      refine ⟨Sub_own [(ba, _), (b8, _)] hno7.2.1 ⟨⟨hapa.2.1.2, hapa.2.1.1⟩, ⟨hap8.1.2, hap8.1.1⟩, trivial⟩, ?_⟩
      refine app_row row25 okt25 (.slice _ 1 _ _ _ Tryz.underlying25 (cells_own [] hba trivial rfl) (RX_oneC hz)) (len_le (n := 21) rfl (by decide)) ?_
      intro ra' rm' rc' hrm'
      simp +contextual only [go_sem, Rcb, Rbk, sevalprocAttr, hno7, hap2, hap3, hapk, hap6, hap8, hapa]
      intro bb hbb hapb
      refine need_b [(ba, _), (b8, _), (b6, _), (bk, _), (b3, _), (b2, _)] (hT.trans hT6) hres hl9 ?_
      intro M8 lva hM8 hno8 hres hla
      simp only [List.cons_append, List.nil_append, noneL, noneL_pL] at hno8
      simp +contextual only [go_sem, Rcb, Rbk, sevalprocAttr, hno8, hap2, hap3, hapk, hap6, hap8, hapa]
      refine Close_row fun M9 hM9 hno9 hsl => ?_
      refine Close_drop (Close_drop (Close_drop (Close_drop (Close_drop (Close_drop (end_id (hT.trans hT6) rfl rfl ?_))))))
      have hx9 := RX_ext (((((hM4.trans hM5).trans hM6).trans hM7).trans hM8).trans hM9) _ _ hx
      have hy9 := RX_ext (((hM6.trans hM7).trans hM8).trans hM9) _ _ hy
      have hz9 := RX_ext (hM8.trans hM9) _ _ hz
      refine ⟨mkX 17 [x, y, z], _, lva, hres, rfl, RS_ext hM9 (fun _ _ h => h) hla, rfl, _, rfl, RX_mk ⟨by simp, _, hsl, ?_⟩⟩
      exact RL_append (RL_one hx9) (RL_append (RL_one hy9) (RL_one hz9))
    rw [if_neg (by simp [hs])] at hres
    clear hs
    simp +contextual only [go_sem, Rcb, Rbk, sevalprocAttr]
    refine is_c [(b3, _), (b2, _)] wCoal hl3 (fun hs lv4 hl4 => ?_) (fun hs lv4 hl4 => ?_)
    · rw [if_pos hs] at hres
      simp +contextual only [go_sem, Rcb, Rbk, sevalprocAttr]
      intro b4 hb4 hap4
      refine need_b [(b3, _), (b2, _)] hT hres hl4 ?_
      intro M2 lv5 hM2 hno2 hres hl5
      simp +contextual only [go_sem, Rcb, Rbk, sevalprocAttr]
      refine part_b [(b3, _), (b2, _)] hT hres hne (fun h => hex M2 _ lv5 T3 (hg1.ext hM2) hl5 h) ?_
      rintro v M3 x t2 lv6 hM3 hno3 hres hl6 ⟨cs, rfl, hx⟩
      obtain ⟨s, rfl, h1, _⟩ := RX_form hx
      simp only [List.cons_append, List.nil_append, noneL, noneL_pL] at hno3
      simp +contextual only [go_sem, Rcb, Rbk, sevalprocAttr, hno3, hap2, hap3, h1]
      intro b7 T7 hb7 hap7 hT7 hTb7 b6 hb6 hap6
      refine need_b [(b7, _), (b3, _), (b2, _)] (hT.trans hT7) hres hl6 ?_
      intro M4 lv7 hM4 hno4 hres hl7
      simp +contextual only [go_sem, Rcb, Rbk, sevalprocAttr]
      refine part_b [(b7, _), (b3, _), (b2, _)] (hT.trans hT7) hres hne (fun h => hex M4 _ lv7 T7 (((hg1.ext hM2).ext hM3).ext hM4) hl7 h) ?_
      rintro v M5 y t3 lv8 hM5 hno5 hres hl8 ⟨cs, rfl, hy⟩
      obtain ⟨s', rfl, h1', _⟩ := RX_form hy
      simp only [List.cons_append, List.nil_append, noneL, noneL_pL] at hno5
      simp +contextual only [go_sem, Rcb, Rbk, sevalprocAttr, hno5, hap2, hap3, hap7, h1']
      intro b8 T8 hb8 hap8 hT8 hTb8 b9 hb9 hap9
      refine need_b [(b8, _), (b7, _), (b3, _), (b2, _)] ((hT.trans hT7).trans hT8) hres hl8 ?_
      intro M6 lv9 hM6 hno6 hres hl9
      simp only [List.cons_append, List.nil_append, noneL, noneL_pL] at hno6
      simp +contextual only [go_sem, Rcb, Rbk, sevalprocAttr, hno6, hap2, hap3, hap7, hap8, h1']
      refine rCall_pure (ct_two 18 (RX_ext ((hM4.trans hM5).trans hM6) _ _ hx) (RX_ext hM6 _ _ hy) T8) ?_ (fun _ _ _ _ h => h.elim)
      rintro v M7 hM7 hno7 ⟨cs, rfl, hxy⟩
      obtain ⟨s'', rfl, h1'', _⟩ := RX_form hxy
      simp only [List.cons_append, List.nil_append, noneL, noneL_pL] at hno7
      simp +contextual only [go_sem, Rcb, Rbk, sevalprocAttr, hno7, hap2, hap3, hap7, hap8, h1'']
      refine Close_drop (Close_drop (Close_drop (Close_drop (end_id ((hT.trans hT7).trans hT8) rfl rfl ?_))))
      exact ⟨_, _, lv9, hres, rfl, RS_ext hM7 (fun _ _ h => h) hl9, rfl, _, rfl, hxy⟩
    rw [if_neg (by simp [hs])] at hres
    clear hs
    simp +contextual only [go_sem, Rcb, Rbk, sevalprocAttr]
    refine is_c [(b3, _), (b2, _)] wCount hl4 (fun hs lv5 hl5 => ?_) (fun hs lv5 hl5 => ?_)
    · rw [if_pos hs] at hres
      simp +contextual only [go_sem, Rcb, Rbk, sevalprocAttr]
      intro b4 hb4 hap4
      refine need_b [(b3, _), (b2, _)] hT hres hl5 ?_
      intro M2 lv6 hM2 hno2 hres hl6
      simp +contextual only [go_sem, Rcb, Rbk, sevalprocAttr]
      refine is_c [(b3, _), (b2, _)] sStar hl6 (fun hs2 lv7 hl7 => ?_) (fun hs2 lv7 hl7 => ?_)
      · rw [if_pos hs2] at hres
        simp +contextual only [go_sem, Rcb, Rbk, sevalprocAttr]
        intro b5 hb5 hap5
        refine need_b [(b3, _), (b2, _)] hT hres hl7 ?_
        intro M3 lv8 hM3 hno3 hres hl8
        simp only [List.cons_append, List.nil_append, noneL, noneL_pL] at hno3
        simp +contextual only [go_sem, Rcb, Rbk, sevalprocAttr, hno3, hap2, hap3]
        refine Close_drop (Close_drop (end_id hT rfl rfl ?_))
        exact ⟨_, _, lv8, hres, rfl, hl8, rfl, _, rfl, RX_mk ⟨Nat.zero_le _, [], .inl ⟨_, _, rfl, rfl, fun _ => rfl⟩, rfl⟩⟩
      · rw [if_neg (by simp [hs2])] at hres
        simp +contextual only [go_sem, Rcb, Rbk, sevalprocAttr]
        refine part_b [(b3, _), (b2, _)] hT hres hne (fun h => hex M2 _ lv7 T3 (hg1.ext hM2) hl7 h) ?_
        rintro v M3 x t2 lv8 hM3 hno3 hres hl8 ⟨cs, rfl, hx⟩
        simp +contextual only [go_sem, Rcb, Rbk, sevalprocAttr]
        refine rCall_pure (ct_of 20 hx T3) ?_ (fun _ _ _ _ h => h.elim)
        rintro v M4 hM4 hno4 ⟨cs', rfl, hx4⟩
        obtain ⟨s, rfl, h1, _⟩ := RX_form hx4
        simp only [List.cons_append, List.nil_append, noneL, noneL_pL] at hno4
        simp +contextual only [go_sem, Rcb, Rbk, sevalprocAttr, hno4, hap2, hap3, h1]
        intro b7 T7 hb7 hap7 hT7 hTb7 b6 hb6 hap6
        refine need_b [(b7, _), (b3, _), (b2, _)] (hT.trans hT7) hres (RS_ext hM4 (fun _ _ h => h) hl8) ?_
        intro M5 lv9 hM5 hno5 hres hl9
        simp only [List.cons_append, List.nil_append, noneL, noneL_pL] at hno5
        simp +contextual only [go_sem, Rcb, Rbk, sevalprocAttr, hno5, hap2, hap3, hap7, h1]
        refine Close_drop (Close_drop (Close_drop (end_id (hT.trans hT7) rfl rfl ?_)))
        exact ⟨_, _, lv9, hres, rfl, hl9, rfl, _, rfl, RX_ext hM5 _ _ hx4⟩
    rw [if_neg (by simp [hs])] at hres
    clear hs
    simp +contextual only [go_sem, Rcb, Rbk, sevalprocAttr]
    intro b4 hb4 hap4
    refine loop_rangeC 3 105 [(0, .pointer (some ⟨pb, 0, none⟩)), (2, .pointer (some ⟨b2, 0, none⟩)), (103, .slice (some ⟨b4, 0, none⟩) 3 3), (104, .int .i64 3)]
      (fun i e h => (∃ M' lv' cs3 cs2, Ext M1 M' ∧ h = ⟨T3, M', (b3, cs3) :: (b2, cs2) :: pL pb lv' en op, []⟩ ∧ cs2.length = 7 ∧ M' b4 = some ([wSum, wMin, wMax].map st) ∧ RS M' RTk 3 t lv' ∧ M' b3 = none ∧ M' b2 = none ∧ M' pb = none) ∧ idxSign [wSum, wMin, wMax] t = (idxSign ([wSum, wMin, wMax].drop i) t).map (· + i))
      0 (by omega) (by simp only [live, go_sem, Rcb, Rbk, sevalprocAttr]) (by simp only [go_sem, Rcb, Rbk, sevalprocAttr]) (Close_freeze fun he hb hno => Close_id ⟨⟨_, lv5, _, _, he, rfl, rfl, hb, RS_ext he (fun _ _ h => h) hl5, hno.1, hno.2.1, by simpa only [noneL_pL] using hno.2.2⟩, by simp⟩) ?_
    rintro i e h hi hlv ht ⟨⟨M2, lv6, cs3, cs2, hM2, rfl, hcs2, hw, hl6, hn3, hn2, hnp⟩, hidx⟩
    simp only [live] at hlv
    obtain ⟨q0, q1, q2, q3, q4, q5, q6, rfl⟩ := cells7 hcs2
    have hg2 := hg1.ext hM2
    by_cases hlt : i < 3
    · have hdrop : [wSum, wMin, wMax].drop i = [wSum, wMin, wMax][i] :: [wSum, wMin, wMax].drop (i + 1) := List.drop_eq_getElem_cons hlt
      rw [hdrop] at hidx
      have hx : mcell M2 ⟨b4, i, none⟩ = some (st [wSum, wMin, wMax][i]) := by
        rw [mcell_some hw, List.getElem?_map, List.getElem?_eq_getElem hlt]
        rfl
      have hi3 : (i : Int) < 3 := by omega
      simp +contextual only [go_sem, Rcb, Rbk, sevalprocAttr, hlv, ht, hlt, hi3, hx]
      refine is_c [(b3, _), (b2, _)] [wSum, wMin, wMax][i] hl6 (fun hs lv7 hl7 => ?_) (fun hs lv7 hl7 => ?_)
      · have hix : idxSign [wSum, wMin, wMax] t = some i := by rw [hidx]; simp [idxSign, hs]
        rw [hix] at hres
        simp only at hres
        simp +contextual only [go_sem, Rcb, Rbk, sevalprocAttr, hlv, ht]
        intro b5 hb5 hap5
        refine need_b [(b3, _), (b2, _)] hT hres hl7 ?_
        intro M3 lv8 hM3 hno3 hres hl8
        simp +contextual only [go_sem, Rcb, Rbk, sevalprocAttr, hlv, ht]
        refine part_b [(b3, _), (b2, _)] hT hres hne (fun h => hex M3 _ lv8 T3 (hg2.ext hM3) hl8 h) ?_
        rintro v M4 x t2 lv9 hM4 hno4 hres hl9 ⟨cs, rfl, hx⟩
        have hw21 : IntKind.i64.wrap (21 + (i : Int)) = 21 + (i : Int) := wrap64 (by omega) (by omega)
        simp +contextual only [go_sem, Rcb, Rbk, sevalprocAttr, hw21]
        refine rCall_pure (ct_of (21 + (i : Int)) hx T3) ?_ (fun _ _ _ _ h => h.elim)
        rintro v M5 hM5 hno5 ⟨cs', rfl, hx5⟩
        obtain ⟨s, rfl, h1, _⟩ := RX_form hx5
        simp only [List.cons_append, List.nil_append, noneL, noneL_pL] at hno5
        simp +contextual only [go_sem, Rcb, Rbk, sevalprocAttr, hno5, hap2, hap3, h1, hlv]
        intro b7 T7 hb7 hap7 hT7 hTb7 b6 hb6 hap6
        refine need_b [(b7, _), (b3, _), (b2, _)] (hT.trans hT7) hres (RS_ext hM5 (fun _ _ h => h) hl9) ?_
        intro M6 lva hM6 hno6 hres hla
        simp only [List.cons_append, List.nil_append, noneL, noneL_pL] at hno6
        simp +contextual only [go_sem, Rcb, Rbk, sevalprocAttr, hno6, hap2, hap3, hap7, h1, hlv]
        refine Close_drop (Close_drop (Close_drop (end_id (hT.trans hT7) rfl rfl ?_)))
        exact ⟨_, _, lva, hres, rfl, hla, rfl, _, rfl, RX_ext hM6 _ _ hx5⟩
      · simp +contextual only [go_sem, Rcb, Rbk, sevalprocAttr, hlv, ht]
        refine lp_range hlt ?_ ?_ ⟨⟨M2, lv7, cs3, _, hM2, rfl, rfl, hw, hl7, hn3, hn2, hnp⟩, ?_⟩
        · simp only [live, hlv, go_sem, Rcb, Rbk, sevalprocAttr]
        · simp only [ht, go_sem, Rcb, Rbk, sevalprocAttr, wrap_succ i (by omega)]
        · rw [hidx]
          simp only [idxSign, hs, Bool.false_eq_true, if_false, Option.map_map]
          congr 1
          funext n
          simp only [Function.comp]; omega
    · have : i = 3 := by omega
      subst this
      have hix : idxSign [wSum, wMin, wMax] t = none := by rw [hidx]; rfl
      rw [hix] at hres
      simp only at hres
      have h33 : ¬ ((3 : Nat) : Int) < 3 := by omega
      simp +contextual only [go_sem, Rcb, Rbk, sevalprocAttr, hlv, ht, h33]
      refine part_b [(b3, _), (b2, _)] hT hres hne (fun _ => ct_p_name hg2 hl6 T3) ?_
      rintro v M3 n t2 lv7 hM3 hno3 hres hl7 rfl
      simp +contextual only [go_sem, Rcb, Rbk, sevalprocAttr, hlv]
      refine is_c [(b3, _), (b2, _)] sDot hl7 (fun hs lv8 hl8 => ?_) (fun hs lv8 hl8 => ?_)
      · rw [if_pos hs] at hres
        simp +contextual only [go_sem, Rcb, Rbk, sevalprocAttr, hlv]
        refine part_b [(b3, _), (b2, _)] hT hres hne (fun _ => ct_p_name (hg2.ext hM3) hl8 T3) ?_
        rintro v M4 m t3 lv9 hM4 hno4 hres hl9 rfl
        simp only [List.cons_append, List.nil_append, noneL, noneL_pL] at hno4
        simp +contextual only [go_sem, Rcb, Rbk, sevalprocAttr, hno4, hlv, hap2, hap3]
        refine Close_drop (Close_drop (end_id hT rfl rfl ?_))
        exact ⟨_, _, lv9, hres, rfl, hl9, rfl, _, rfl, RX_iff.2 ⟨_, rfl, Nat.zero_le _, [], .inl ⟨_, _, rfl, rfl, fun _ => rfl⟩, rfl⟩⟩
      · rw [if_neg (by simp [hs])] at hres
        simp only [List.cons_append, List.nil_append, noneL, noneL_pL] at hno3
        simp +contextual only [go_sem, Rcb, Rbk, sevalprocAttr, hno3, hlv, hap2, hap3]
        refine Close_drop (Close_drop (end_id hT rfl rfl ?_))
        exact ⟨_, _, lv8, hres, rfl, hl8, rfl, _, rfl, RX_iff.2 ⟨_, rfl, Nat.zero_le _, [], .inl ⟨_, _, rfl, rfl, fun _ => rfl⟩, rfl⟩⟩
end Go.Proofs.YtmccpbcbofhmlaaGreatDoor
