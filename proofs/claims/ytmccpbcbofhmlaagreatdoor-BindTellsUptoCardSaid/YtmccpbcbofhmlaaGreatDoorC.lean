import Derived.Test.YtmccpbcbofhmlaaGreatDoorProg
import Derived.Test.YtmccpbcbofhmlaaGreatDoorB
import Derived.Shelf.Strings.Builder1
import Derived.Shelf.Strings.Builder2
import Derived.Shelf.Small.Strs
import Derived.Shelf.Strconv.Itoa0
import Derived.Shelf.Strconv.Itoa1
import Derived.Shelf.LaysM
import Derived.Shelf.Strconv.Itoa2
import Derived.Shelf.Strconv.Itoa3
import Derived.Shelf.Strconv.Itoa4
import Derived.Shelf.Strconv.ParseIntEmpty
import Derived.Shelf.Strconv.Clone
import Derived.Shelf.Strconv.SyntaxError
import Derived.Shelf.LaysC
import Derived.Shelf.Strconv.ToError
import Derived.Shelf.Strconv.Lower
import Derived.Shelf.Strconv.ParseUint10
import Derived.Shelf.Strconv.ParseUint10Empty
import Derived.Shelf.Strconv.ParseUint10Any
import Derived.Shelf.Strconv.ParseInt10
import Derived.Shelf.Strconv.RangeError
import Derived.Shelf.Strconv.ToErrorRange
import Derived.Shelf.Strconv.ParseUintEmpty
import Derived.Shelf.Strconv.ParseUint10b64
import Derived.Shelf.Strconv.ParseUint10b32
import Derived.Shelf.Strconv.ParseUint10b16
import Derived.Shelf.Strconv.ParseUint10b8
import Derived.Shelf.Strconv.ParseUint10At
import Derived.Shelf.Strconv.ParseInt10At64
import Derived.Shelf.Strconv.ParseInt10At32
import Derived.Shelf.Strconv.ParseInt10At16
import Derived.Shelf.Strconv.ParseInt10At8
import Derived.Shelf.Strconv.ParseInt10All
import Derived.Shelf.Strconv.ParseIntPublic10
import Derived.Shelf.Strings.Search1
import Derived.Shelf.Strings.Search2
import Derived.Shelf.Strings.Search3
import Derived.Shelf.Strings.Count
import Derived.Shelf.Strings.Shaped
import Derived.Shelf.Strings.Prefix
import Derived.Shelf.Strings.Split
import Derived.Shelf.Strings.Fields
import Derived.Shelf.Strings.Replace
import Derived.Shelf.Unicode.Latin
import Derived.Shelf.Unicode.DecodeSlow
import Derived.Shelf.Unicode.Is16White
import Derived.Shelf.Unicode.IsSpaceAny
import Derived.Shelf.Unicode.Is16Any
import Derived.Shelf.Unicode.Is32Any
import Derived.Shelf.Unicode.ExclAny
import Derived.Lib.ParseIntB
set_option linter.all false
namespace Go.Proofs.YtmccpbcbofhmlaaGreatDoor
open Go Vc
theorem mx : Tryz.prog.follows .mixedOrders = true := by kernel_rfl
theorem bod10 : bodied Tryz.prog 10 = true := by kernel_rfl
theorem bod105 : bodied Tryz.prog 105 = true := by kernel_rfl
theorem bod106 : bodied Tryz.prog 106 = true := by kernel_rfl
theorem bod107 : bodied Tryz.prog 107 = true := by kernel_rfl
theorem bod108 : bodied Tryz.prog 108 = true := by kernel_rfl
theorem bod109 : bodied Tryz.prog 109 = true := by kernel_rfl
theorem bod11 : bodied Tryz.prog 11 = true := by kernel_rfl
theorem bod110 : bodied Tryz.prog 110 = true := by kernel_rfl
theorem bod111 : bodied Tryz.prog 111 = true := by kernel_rfl
theorem bod113 : bodied Tryz.prog 113 = true := by kernel_rfl
theorem bod114 : bodied Tryz.prog 114 = true := by kernel_rfl
theorem bod115 : bodied Tryz.prog 115 = true := by kernel_rfl
theorem bod116 : bodied Tryz.prog 116 = true := by kernel_rfl
theorem bod117 : bodied Tryz.prog 117 = true := by kernel_rfl
theorem bod118 : bodied Tryz.prog 118 = true := by kernel_rfl
theorem bod119 : bodied Tryz.prog 119 = true := by kernel_rfl
theorem bod12 : bodied Tryz.prog 12 = true := by kernel_rfl
theorem bod120 : bodied Tryz.prog 120 = true := by kernel_rfl
theorem bod121 : bodied Tryz.prog 121 = true := by kernel_rfl
theorem bod122 : bodied Tryz.prog 122 = true := by kernel_rfl
theorem bod123 : bodied Tryz.prog 123 = true := by kernel_rfl
theorem bod124 : bodied Tryz.prog 124 = true := by kernel_rfl
theorem bod127 : bodied Tryz.prog 127 = true := by kernel_rfl
theorem bod13 : bodied Tryz.prog 13 = true := by kernel_rfl
theorem bod14 : bodied Tryz.prog 14 = true := by kernel_rfl
theorem bod15 : bodied Tryz.prog 15 = true := by kernel_rfl
theorem bod17 : bodied Tryz.prog 17 = true := by kernel_rfl
theorem bod170 : bodied Tryz.prog 170 = true := by kernel_rfl
theorem bod172 : bodied Tryz.prog 172 = true := by kernel_rfl
theorem bod173 : bodied Tryz.prog 173 = true := by kernel_rfl
theorem bod174 : bodied Tryz.prog 174 = true := by kernel_rfl
theorem bod18 : bodied Tryz.prog 18 = true := by kernel_rfl
theorem bod22 : bodied Tryz.prog 22 = true := by kernel_rfl
theorem bod224 : bodied Tryz.prog 224 = true := by kernel_rfl
theorem bod225 : bodied Tryz.prog 225 = true := by kernel_rfl
theorem bod226 : bodied Tryz.prog 226 = true := by kernel_rfl
theorem bod227 : bodied Tryz.prog 227 = true := by kernel_rfl
theorem bod25 : bodied Tryz.prog 25 = true := by kernel_rfl
theorem bod26 : bodied Tryz.prog 26 = true := by kernel_rfl
theorem bod269 : bodied Tryz.prog 269 = true := by kernel_rfl
theorem bod27 : bodied Tryz.prog 27 = true := by kernel_rfl
theorem bod270 : bodied Tryz.prog 270 = true := by kernel_rfl
theorem bod271 : bodied Tryz.prog 271 = true := by kernel_rfl
theorem bod272 : bodied Tryz.prog 272 = true := by kernel_rfl
theorem bod29 : bodied Tryz.prog 29 = true := by kernel_rfl
theorem bod3 : bodied Tryz.prog 3 = true := by kernel_rfl
theorem bod30 : bodied Tryz.prog 30 = true := by kernel_rfl
theorem bod31 : bodied Tryz.prog 31 = true := by kernel_rfl
theorem bod32 : bodied Tryz.prog 32 = true := by kernel_rfl
theorem bod33 : bodied Tryz.prog 33 = true := by kernel_rfl
theorem bod34 : bodied Tryz.prog 34 = true := by kernel_rfl
theorem bod35 : bodied Tryz.prog 35 = true := by kernel_rfl
theorem bod37 : bodied Tryz.prog 37 = true := by kernel_rfl
theorem bod40 : bodied Tryz.prog 40 = true := by kernel_rfl
theorem bod41 : bodied Tryz.prog 41 = true := by kernel_rfl
theorem bod53 : bodied Tryz.prog 53 = true := by kernel_rfl
theorem bod54 : bodied Tryz.prog 54 = true := by kernel_rfl
theorem bod55 : bodied Tryz.prog 55 = true := by kernel_rfl
theorem bod58 : bodied Tryz.prog 58 = true := by kernel_rfl
theorem bod59 : bodied Tryz.prog 59 = true := by kernel_rfl
theorem bod60 : bodied Tryz.prog 60 = true := by kernel_rfl
theorem bod61 : bodied Tryz.prog 61 = true := by kernel_rfl
theorem bod62 : bodied Tryz.prog 62 = true := by kernel_rfl
theorem bod63 : bodied Tryz.prog 63 = true := by kernel_rfl
theorem bod64 : bodied Tryz.prog 64 = true := by kernel_rfl
theorem bod65 : bodied Tryz.prog 65 = true := by kernel_rfl
theorem bod66 : bodied Tryz.prog 66 = true := by kernel_rfl
theorem bod67 : bodied Tryz.prog 67 = true := by kernel_rfl
theorem bod68 : bodied Tryz.prog 68 = true := by kernel_rfl
theorem bod69 : bodied Tryz.prog 69 = true := by kernel_rfl
theorem bod7 : bodied Tryz.prog 7 = true := by kernel_rfl
theorem bod70 : bodied Tryz.prog 70 = true := by kernel_rfl
theorem bod71 : bodied Tryz.prog 71 = true := by kernel_rfl
theorem bod72 : bodied Tryz.prog 72 = true := by kernel_rfl
theorem bod73 : bodied Tryz.prog 73 = true := by kernel_rfl
theorem bod74 : bodied Tryz.prog 74 = true := by kernel_rfl
theorem bod75 : bodied Tryz.prog 75 = true := by kernel_rfl
theorem bod76 : bodied Tryz.prog 76 = true := by kernel_rfl
theorem bod77 : bodied Tryz.prog 77 = true := by kernel_rfl
theorem bod78 : bodied Tryz.prog 78 = true := by kernel_rfl
theorem bod79 : bodied Tryz.prog 79 = true := by kernel_rfl
theorem bod8 : bodied Tryz.prog 8 = true := by kernel_rfl
theorem bod80 : bodied Tryz.prog 80 = true := by kernel_rfl
theorem bod81 : bodied Tryz.prog 81 = true := by kernel_rfl
theorem bod82 : bodied Tryz.prog 82 = true := by kernel_rfl
theorem bod83 : bodied Tryz.prog 83 = true := by kernel_rfl
theorem bod84 : bodied Tryz.prog 84 = true := by kernel_rfl
theorem bod85 : bodied Tryz.prog 85 = true := by kernel_rfl
theorem bod86 : bodied Tryz.prog 86 = true := by kernel_rfl
theorem bod9 : bodied Tryz.prog 9 = true := by kernel_rfl
theorem bt102 : bt Tryz.prog 102 = some ([(.slice none 0 0), (.slice none 0 0), (.pointer none), (.pointer none)], [(0, 1), (1, 1), (2, 1), (3, 1)]) := by kernel_rfl
theorem bt104 : bt Tryz.prog 104 = some ([(.string ⟨#[]⟩), (.string ⟨#[]⟩)], [(0, 1), (1, 1)]) := by kernel_rfl
theorem bt108 : bt Tryz.prog 108 = some ([(.int .i64 (0))], [(0, 1)]) := by kernel_rfl
theorem bt114 : bt Tryz.prog 114 = some ([(.slice none 0 0), (.bool false), (.slice none 0 0), (.slice none 0 0)], [(0, 1), (1, 1), (2, 1), (3, 1)]) := by kernel_rfl
theorem bt116 : bt Tryz.prog 116 = some ([(.string ⟨#[]⟩), (.string ⟨#[]⟩)], [(0, 1), (1, 1)]) := by kernel_rfl
theorem bt119 : bt Tryz.prog 119 = some ([(.int .i64 (0)), (.int .i64 (0)), (.int .i64 (0)), (.int .i64 (0)), (.string ⟨#[]⟩), (.int .i64 (0)), (.slice none 0 0)], [(0, 1), (1, 6)]) := by kernel_rfl
theorem bt127 : bt Tryz.prog 127 = some ([(.slice none 0 0), (.int .i64 (0))], [(0, 1), (1, 1)]) := by kernel_rfl
theorem bt138 : bt Tryz.prog 138 = some ([(.pointer none), (.slice none 0 0)], [(0, 2)]) := by kernel_rfl
theorem bt144 : bt Tryz.prog 144 = some ([(.int .i64 (0)), (.int .i64 (0))], [(0, 2)]) := by kernel_rfl
theorem bt149 : bt Tryz.prog 149 = some ([(.slice none 0 0), (.int .i64 (0)), (.int .i64 (0))], [(0, 1), (1, 1), (2, 1)]) := by kernel_rfl
theorem bt159 : bt Tryz.prog 159 = some ([(.slice none 0 0), (.int .i64 (0))], [(0, 1), (1, 1)]) := by kernel_rfl
theorem bt161 : bt Tryz.prog 161 = some ([(.int .i64 (0)), (.int .i64 (0)), (.int .i64 (0)), (.string ⟨#[]⟩), (.string ⟨#[]⟩), (.string ⟨#[]⟩), (.slice none 0 0), (.string ⟨#[]⟩)], [(0, 7), (7, 1)]) := by kernel_rfl
theorem bt181 : bt Tryz.prog 181 = some ([(.slice none 0 0), (.int .i64 (0))], [(0, 1), (1, 1)]) := by kernel_rfl
theorem bt199 : bt Tryz.prog 199 = some ([(.int .i64 (0)), (.string ⟨#[]⟩), (.int .i64 (0))], [(0, 1), (1, 1), (2, 1)]) := by kernel_rfl
theorem bt266 : bt Tryz.prog 266 = some ([(.slice none 0 0), (.int .i64 (0))], [(0, 1), (1, 1)]) := by kernel_rfl
theorem bt27 : bt Tryz.prog 27 = some ([(.slice none 0 0), (.slice none 0 0), (.slice none 0 0), (.int .i64 (0))], [(0, 1), (1, 1), (2, 1), (3, 1)]) := by kernel_rfl
theorem bt272 : bt Tryz.prog 272 = some ([(.int .i64 (0))], [(0, 1)]) := by kernel_rfl
theorem bt278 : bt Tryz.prog 278 = some ([(.slice none 0 0), (.int .i64 (0)), (.bool false)], [(0, 1), (1, 1), (2, 1)]) := by kernel_rfl
theorem bt29 : bt Tryz.prog 29 = some ([(.int .i64 (0)), (.int .i64 (0)), (.string ⟨#[]⟩)], [(0, 1), (1, 1), (2, 1)]) := by kernel_rfl
theorem bt31 : bt Tryz.prog 31 = some ([(.int .i64 (0)), (.int .i64 (0)), (.int .i64 (0)), (.string ⟨#[]⟩), (.string ⟨#[]⟩), (.string ⟨#[]⟩), (.slice none 0 0)], [(0, 1), (1, 3), (4, 1), (5, 1), (6, 1)]) := by kernel_rfl
theorem bt320 : bt Tryz.prog 320 = some ([(.slice none 0 0), (.int .i64 (0))], [(0, 1), (1, 1)]) := by kernel_rfl
theorem bt353 : bt Tryz.prog 353 = some ([(.slice none 0 0), (.slice none 0 0)], [(0, 1), (1, 1)]) := by kernel_rfl
theorem bt38 : bt Tryz.prog 38 = some ([(.int .i64 (0)), (.int .i64 (0)), (.int .i64 (0)), (.string ⟨#[]⟩), (.int .i64 (0)), (.slice none 0 0)], [(0, 1), (1, 3), (4, 1), (5, 1)]) := by kernel_rfl
theorem bt42 : bt Tryz.prog 42 = some ([(.int .i64 (0)), (.int .i64 (0)), (.int .i64 (0)), (.int .i64 (0)), (.int .i64 (0)), (.string ⟨#[]⟩), (.int .i64 (0)), (.slice none 0 0), (.slice none 0 0), (.slice none 0 0), (.slice none 0 0)], [(0, 1), (1, 1), (2, 6), (8, 1), (9, 1), (10, 1)]) := by kernel_rfl
theorem bt48 : bt Tryz.prog 48 = some ([(.string ⟨#[]⟩), (.int .i64 (0))], [(0, 1), (1, 1)]) := by kernel_rfl
theorem bt52 : bt Tryz.prog 52 = some ([(.string ⟨#[]⟩), (.slice none 0 0), (.bool false), (.int .i64 (0)), (.int .i64 (0)), (.int .i64 (0)), (.int .i64 (0)), (.int .i64 (0)), (.string ⟨#[]⟩), (.int .i64 (0)), (.slice none 0 0), (.slice none 0 0), (.slice none 0 0), (.slice none 0 0)], [(0, 1), (1, 1), (2, 1), (3, 11)]) := by kernel_rfl
theorem bt62 : bt Tryz.prog 62 = some ([(.int .i64 (0)), (.int .i64 (0))], [(0, 1), (1, 1)]) := by kernel_rfl
theorem bt67 : bt Tryz.prog 67 = some ([(.int .i64 (0)), (.string ⟨#[]⟩), (.slice none 0 0), (.slice none 0 0), (.slice none 0 0), (.slice none 0 0), (.int .i64 (0)), (.slice none 0 0), (.bool false), (.int .i64 (0)), (.int .i64 (0)), (.int .i64 (0)), (.string ⟨#[]⟩), (.string ⟨#[]⟩), (.string ⟨#[]⟩), (.slice none 0 0)], [(0, 1), (1, 1), (2, 1), (3, 4), (7, 1), (8, 1), (9, 7)]) := by kernel_rfl
theorem bt75 : bt Tryz.prog 75 = some ([(.int .i64 (0)), (.string ⟨#[]⟩), (.string ⟨#[]⟩), (.int .i64 (0)), (.int .i64 (0)), (.int .i64 (0)), (.string ⟨#[]⟩), (.string ⟨#[]⟩), (.string ⟨#[]⟩), (.slice none 0 0)], [(0, 1), (1, 1), (2, 1), (3, 7)]) := by kernel_rfl
theorem bt79 : bt Tryz.prog 79 = some ([(.bool false), (.bool false), (.slice none 0 0), (.slice none 0 0), (.bool false), (.bool false), (.int .i64 (0)), (.int .i64 (0)), (.int .i64 (0)), (.string ⟨#[]⟩), (.string ⟨#[]⟩), (.string ⟨#[]⟩), (.slice none 0 0), (.int .i64 (0)), (.int .i64 (0)), (.int .i64 (0)), (.string ⟨#[]⟩), (.string ⟨#[]⟩), (.string ⟨#[]⟩), (.slice none 0 0), (.slice none 0 0)], [(0, 1), (1, 1), (2, 1), (3, 1), (4, 1), (5, 1), (6, 7), (13, 7), (20, 1)]) := by kernel_rfl
theorem bt89 : bt Tryz.prog 89 = some ([(.int .i64 (0))], [(0, 1)]) := by kernel_rfl
theorem bt92 : bt Tryz.prog 92 = some ([(.slice none 0 0)], [(0, 1)]) := by kernel_rfl
theorem conc144 : Tryz.prog.concrete 144 = true := by kernel_rfl
theorem conc89 : Tryz.prog.concrete 89 = true := by kernel_rfl
theorem conc9 : Tryz.prog.concrete 9 = true := by kernel_rfl
theorem cv363_3 : cvT Tryz.prog 363 3 = some .i64 := by kernel_rfl
theorem cv3_363 : cvT Tryz.prog 3 363 = some .u64 := by kernel_rfl
theorem cvk133_328 : cvK Tryz.prog 133 328 = 0 := by kernel_rfl
theorem cvk328_133 : cvK Tryz.prog 328 133 = 0 := by kernel_rfl
theorem cvk363_3 : cvK Tryz.prog 363 3 = 0 := by kernel_rfl
theorem cvk3_363 : cvK Tryz.prog 3 363 = 0 := by kernel_rfl
theorem el112 : elSize Tryz.prog 112 = some 2 := by kernel_rfl
theorem el134 : elSize Tryz.prog 134 = some 1 := by kernel_rfl
theorem el146 : elSize Tryz.prog 146 = some 3 := by kernel_rfl
theorem el157 : elSize Tryz.prog 157 = some 3 := by kernel_rfl
theorem el22 : elSize Tryz.prog 22 = some 14 := by kernel_rfl
theorem el23 : elSize Tryz.prog 23 = some 21 := by kernel_rfl
theorem el234 : elSize Tryz.prog 234 = some 1 := by kernel_rfl
theorem el24 : elSize Tryz.prog 24 = some 1 := by kernel_rfl
theorem el25 : elSize Tryz.prog 25 = some 7 := by kernel_rfl
theorem el275 : elSize Tryz.prog 275 = some 3 := by kernel_rfl
theorem el303 : elSize Tryz.prog 303 = some 1 := by kernel_rfl
theorem el340 : elSize Tryz.prog 340 = some 1 := by kernel_rfl
theorem el345 : elSize Tryz.prog 345 = some 1 := by kernel_rfl
theorem el351 : elSize Tryz.prog 351 = some 2 := by kernel_rfl
theorem el36 : elSize Tryz.prog 36 = some 6 := by kernel_rfl
theorem el369 : elSize Tryz.prog 369 = some 1 := by kernel_rfl
theorem el39 : elSize Tryz.prog 39 = some 7 := by kernel_rfl
theorem el40 : elSize Tryz.prog 40 = some 11 := by kernel_rfl
theorem el43 : elSize Tryz.prog 43 = some 2 := by kernel_rfl
theorem el58 : elSize Tryz.prog 58 = some 1 := by kernel_rfl
theorem el65 : elSize Tryz.prog 65 = some 1 := by kernel_rfl
theorem el68 : elSize Tryz.prog 68 = some 16 := by kernel_rfl
theorem el72 : elSize Tryz.prog 72 = some 1 := by kernel_rfl
theorem el76 : elSize Tryz.prog 76 = some 10 := by kernel_rfl
theorem el77 : elSize Tryz.prog 77 = some 8 := by kernel_rfl
theorem el80 : elSize Tryz.prog 80 = some 2 := by kernel_rfl
theorem el93 : elSize Tryz.prog 93 = some 1 := by kernel_rfl
theorem el99 : elSize Tryz.prog 99 = some 2 := by kernel_rfl
theorem fd29_0 : fdP Tryz.prog 29 0 = some (false, 0, 1) := by kernel_rfl
theorem fo102_0 : fOff Tryz.prog 102 0 = some 0 := by kernel_rfl
theorem fo102_1 : fOff Tryz.prog 102 1 = some 1 := by kernel_rfl
theorem fo102_2 : fOff Tryz.prog 102 2 = some 2 := by kernel_rfl
theorem fo102_3 : fOff Tryz.prog 102 3 = some 3 := by kernel_rfl
theorem fo104_0 : fOff Tryz.prog 104 0 = some 0 := by kernel_rfl
theorem fo104_1 : fOff Tryz.prog 104 1 = some 1 := by kernel_rfl
theorem fo108_0 : fOff Tryz.prog 108 0 = some 0 := by kernel_rfl
theorem fo114_0 : fOff Tryz.prog 114 0 = some 0 := by kernel_rfl
theorem fo114_1 : fOff Tryz.prog 114 1 = some 1 := by kernel_rfl
theorem fo114_2 : fOff Tryz.prog 114 2 = some 2 := by kernel_rfl
theorem fo114_3 : fOff Tryz.prog 114 3 = some 3 := by kernel_rfl
theorem fo116_0 : fOff Tryz.prog 116 0 = some 0 := by kernel_rfl
theorem fo116_1 : fOff Tryz.prog 116 1 = some 1 := by kernel_rfl
theorem fo119_0 : fOff Tryz.prog 119 0 = some 0 := by kernel_rfl
theorem fo119_1 : fOff Tryz.prog 119 1 = some 1 := by kernel_rfl
theorem fo127_0 : fOff Tryz.prog 127 0 = some 0 := by kernel_rfl
theorem fo127_1 : fOff Tryz.prog 127 1 = some 1 := by kernel_rfl
theorem fo136_0 : fOff Tryz.prog 136 0 = some 0 := by kernel_rfl
theorem fo136_1 : fOff Tryz.prog 136 1 = some 1 := by kernel_rfl
theorem fo138_0 : fOff Tryz.prog 138 0 = some 0 := by kernel_rfl
theorem fo144_0 : fOff Tryz.prog 144 0 = some 0 := by kernel_rfl
theorem fo149_0 : fOff Tryz.prog 149 0 = some 0 := by kernel_rfl
theorem fo149_1 : fOff Tryz.prog 149 1 = some 1 := by kernel_rfl
theorem fo149_2 : fOff Tryz.prog 149 2 = some 2 := by kernel_rfl
theorem fo159_0 : fOff Tryz.prog 159 0 = some 0 := by kernel_rfl
theorem fo159_1 : fOff Tryz.prog 159 1 = some 1 := by kernel_rfl
theorem fo161_0 : fOff Tryz.prog 161 0 = some 0 := by kernel_rfl
theorem fo161_1 : fOff Tryz.prog 161 1 = some 7 := by kernel_rfl
theorem fo181_0 : fOff Tryz.prog 181 0 = some 0 := by kernel_rfl
theorem fo181_1 : fOff Tryz.prog 181 1 = some 1 := by kernel_rfl
theorem fo199_0 : fOff Tryz.prog 199 0 = some 0 := by kernel_rfl
theorem fo199_1 : fOff Tryz.prog 199 1 = some 1 := by kernel_rfl
theorem fo199_2 : fOff Tryz.prog 199 2 = some 2 := by kernel_rfl
theorem fo266_0 : fOff Tryz.prog 266 0 = some 0 := by kernel_rfl
theorem fo266_1 : fOff Tryz.prog 266 1 = some 1 := by kernel_rfl
theorem fo272_0 : fOff Tryz.prog 272 0 = some 0 := by kernel_rfl
theorem fo278_0 : fOff Tryz.prog 278 0 = some 0 := by kernel_rfl
theorem fo278_1 : fOff Tryz.prog 278 1 = some 1 := by kernel_rfl
theorem fo278_2 : fOff Tryz.prog 278 2 = some 2 := by kernel_rfl
theorem fo27_0 : fOff Tryz.prog 27 0 = some 0 := by kernel_rfl
theorem fo27_1 : fOff Tryz.prog 27 1 = some 1 := by kernel_rfl
theorem fo27_2 : fOff Tryz.prog 27 2 = some 2 := by kernel_rfl
theorem fo27_3 : fOff Tryz.prog 27 3 = some 3 := by kernel_rfl
theorem fo29_0 : fOff Tryz.prog 29 0 = some 0 := by kernel_rfl
theorem fo29_1 : fOff Tryz.prog 29 1 = some 1 := by kernel_rfl
theorem fo29_2 : fOff Tryz.prog 29 2 = some 2 := by kernel_rfl
theorem fo31_0 : fOff Tryz.prog 31 0 = some 0 := by kernel_rfl
theorem fo31_1 : fOff Tryz.prog 31 1 = some 1 := by kernel_rfl
theorem fo31_2 : fOff Tryz.prog 31 2 = some 4 := by kernel_rfl
theorem fo31_3 : fOff Tryz.prog 31 3 = some 5 := by kernel_rfl
theorem fo31_4 : fOff Tryz.prog 31 4 = some 6 := by kernel_rfl
theorem fo320_0 : fOff Tryz.prog 320 0 = some 0 := by kernel_rfl
theorem fo320_1 : fOff Tryz.prog 320 1 = some 1 := by kernel_rfl
theorem fo353_0 : fOff Tryz.prog 353 0 = some 0 := by kernel_rfl
theorem fo353_1 : fOff Tryz.prog 353 1 = some 1 := by kernel_rfl
theorem fo388_0 : fOff Tryz.prog 388 0 = some 0 := by kernel_rfl
theorem fo388_1 : fOff Tryz.prog 388 1 = some 1 := by kernel_rfl
theorem fo38_0 : fOff Tryz.prog 38 0 = some 0 := by kernel_rfl
theorem fo38_1 : fOff Tryz.prog 38 1 = some 1 := by kernel_rfl
theorem fo38_2 : fOff Tryz.prog 38 2 = some 4 := by kernel_rfl
theorem fo38_3 : fOff Tryz.prog 38 3 = some 5 := by kernel_rfl
theorem fo42_0 : fOff Tryz.prog 42 0 = some 0 := by kernel_rfl
theorem fo42_1 : fOff Tryz.prog 42 1 = some 1 := by kernel_rfl
theorem fo42_2 : fOff Tryz.prog 42 2 = some 2 := by kernel_rfl
theorem fo42_3 : fOff Tryz.prog 42 3 = some 8 := by kernel_rfl
theorem fo42_4 : fOff Tryz.prog 42 4 = some 9 := by kernel_rfl
theorem fo42_5 : fOff Tryz.prog 42 5 = some 10 := by kernel_rfl
theorem fo48_0 : fOff Tryz.prog 48 0 = some 0 := by kernel_rfl
theorem fo48_1 : fOff Tryz.prog 48 1 = some 1 := by kernel_rfl
theorem fo52_0 : fOff Tryz.prog 52 0 = some 0 := by kernel_rfl
theorem fo52_1 : fOff Tryz.prog 52 1 = some 1 := by kernel_rfl
theorem fo52_2 : fOff Tryz.prog 52 2 = some 2 := by kernel_rfl
theorem fo52_3 : fOff Tryz.prog 52 3 = some 3 := by kernel_rfl
theorem fo62_0 : fOff Tryz.prog 62 0 = some 0 := by kernel_rfl
theorem fo67_0 : fOff Tryz.prog 67 0 = some 0 := by kernel_rfl
theorem fo67_1 : fOff Tryz.prog 67 1 = some 1 := by kernel_rfl
theorem fo67_2 : fOff Tryz.prog 67 2 = some 2 := by kernel_rfl
theorem fo67_3 : fOff Tryz.prog 67 3 = some 3 := by kernel_rfl
theorem fo67_4 : fOff Tryz.prog 67 4 = some 7 := by kernel_rfl
theorem fo67_5 : fOff Tryz.prog 67 5 = some 8 := by kernel_rfl
theorem fo67_6 : fOff Tryz.prog 67 6 = some 9 := by kernel_rfl
theorem fo75_0 : fOff Tryz.prog 75 0 = some 0 := by kernel_rfl
theorem fo75_1 : fOff Tryz.prog 75 1 = some 1 := by kernel_rfl
theorem fo75_2 : fOff Tryz.prog 75 2 = some 2 := by kernel_rfl
theorem fo75_3 : fOff Tryz.prog 75 3 = some 3 := by kernel_rfl
theorem fo79_0 : fOff Tryz.prog 79 0 = some 0 := by kernel_rfl
theorem fo79_1 : fOff Tryz.prog 79 1 = some 1 := by kernel_rfl
theorem fo79_2 : fOff Tryz.prog 79 2 = some 2 := by kernel_rfl
theorem fo79_3 : fOff Tryz.prog 79 3 = some 3 := by kernel_rfl
theorem fo79_4 : fOff Tryz.prog 79 4 = some 4 := by kernel_rfl
theorem fo79_5 : fOff Tryz.prog 79 5 = some 5 := by kernel_rfl
theorem fo79_6 : fOff Tryz.prog 79 6 = some 6 := by kernel_rfl
theorem fo79_7 : fOff Tryz.prog 79 7 = some 13 := by kernel_rfl
theorem fo79_8 : fOff Tryz.prog 79 8 = some 20 := by kernel_rfl
theorem fo89_0 : fOff Tryz.prog 89 0 = some 0 := by kernel_rfl
theorem fo92_0 : fOff Tryz.prog 92 0 = some 0 := by kernel_rfl
theorem ibl4 : isBoolT Tryz.prog 4 = true := by kernel_rfl
theorem isl112 : isSlT Tryz.prog 112 = true := by kernel_rfl
theorem isl134 : isSlT Tryz.prog 134 = true := by kernel_rfl
theorem isl146 : isSlT Tryz.prog 146 = true := by kernel_rfl
theorem isl157 : isSlT Tryz.prog 157 = true := by kernel_rfl
theorem isl22 : isSlT Tryz.prog 22 = true := by kernel_rfl
theorem isl23 : isSlT Tryz.prog 23 = true := by kernel_rfl
theorem isl24 : isSlT Tryz.prog 24 = true := by kernel_rfl
theorem isl25 : isSlT Tryz.prog 25 = true := by kernel_rfl
theorem isl275 : isSlT Tryz.prog 275 = true := by kernel_rfl
theorem isl340 : isSlT Tryz.prog 340 = true := by kernel_rfl
theorem isl351 : isSlT Tryz.prog 351 = true := by kernel_rfl
theorem isl36 : isSlT Tryz.prog 36 = true := by kernel_rfl
theorem isl369 : isSlT Tryz.prog 369 = true := by kernel_rfl
theorem isl39 : isSlT Tryz.prog 39 = true := by kernel_rfl
theorem isl40 : isSlT Tryz.prog 40 = true := by kernel_rfl
theorem isl43 : isSlT Tryz.prog 43 = true := by kernel_rfl
theorem isl58 : isSlT Tryz.prog 58 = true := by kernel_rfl
theorem isl65 : isSlT Tryz.prog 65 = true := by kernel_rfl
theorem isl68 : isSlT Tryz.prog 68 = true := by kernel_rfl
theorem isl72 : isSlT Tryz.prog 72 = true := by kernel_rfl
theorem isl76 : isSlT Tryz.prog 76 = true := by kernel_rfl
theorem isl77 : isSlT Tryz.prog 77 = true := by kernel_rfl
theorem isl80 : isSlT Tryz.prog 80 = true := by kernel_rfl
theorem isl9 : isSlT Tryz.prog 9 = false := by kernel_rfl
theorem isl93 : isSlT Tryz.prog 93 = true := by kernel_rfl
theorem isl99 : isSlT Tryz.prog 99 = true := by kernel_rfl
theorem ist112 : isStrT Tryz.prog 112 = false := by kernel_rfl
theorem ist134 : isStrT Tryz.prog 134 = false := by kernel_rfl
theorem ist146 : isStrT Tryz.prog 146 = false := by kernel_rfl
theorem ist157 : isStrT Tryz.prog 157 = false := by kernel_rfl
theorem ist22 : isStrT Tryz.prog 22 = false := by kernel_rfl
theorem ist23 : isStrT Tryz.prog 23 = false := by kernel_rfl
theorem ist24 : isStrT Tryz.prog 24 = false := by kernel_rfl
theorem ist25 : isStrT Tryz.prog 25 = false := by kernel_rfl
theorem ist275 : isStrT Tryz.prog 275 = false := by kernel_rfl
theorem ist340 : isStrT Tryz.prog 340 = false := by kernel_rfl
theorem ist351 : isStrT Tryz.prog 351 = false := by kernel_rfl
theorem ist36 : isStrT Tryz.prog 36 = false := by kernel_rfl
theorem ist369 : isStrT Tryz.prog 369 = false := by kernel_rfl
theorem ist39 : isStrT Tryz.prog 39 = false := by kernel_rfl
theorem ist40 : isStrT Tryz.prog 40 = false := by kernel_rfl
theorem ist43 : isStrT Tryz.prog 43 = false := by kernel_rfl
theorem ist58 : isStrT Tryz.prog 58 = false := by kernel_rfl
theorem ist65 : isStrT Tryz.prog 65 = false := by kernel_rfl
theorem ist68 : isStrT Tryz.prog 68 = false := by kernel_rfl
theorem ist72 : isStrT Tryz.prog 72 = false := by kernel_rfl
theorem ist76 : isStrT Tryz.prog 76 = false := by kernel_rfl
theorem ist77 : isStrT Tryz.prog 77 = false := by kernel_rfl
theorem ist80 : isStrT Tryz.prog 80 = false := by kernel_rfl
theorem ist9 : isStrT Tryz.prog 9 = true := by kernel_rfl
theorem ist93 : isStrT Tryz.prog 93 = false := by kernel_rfl
theorem ist99 : isStrT Tryz.prog 99 = false := by kernel_rfl
theorem mt216 : mapT Tryz.prog 216 = some .i64 := by kernel_rfl
theorem mt242 : mapT Tryz.prog 242 = some .i64 := by kernel_rfl
theorem nt10 : Tryz.f10.ntmps = 113 := by kernel_rfl
theorem nt105 : Tryz.f105.ntmps = 49 := by kernel_rfl
theorem nt106 : Tryz.f106.ntmps = 9 := by kernel_rfl
theorem nt107 : Tryz.f107.ntmps = 8 := by kernel_rfl
theorem nt108 : Tryz.f108.ntmps = 19 := by kernel_rfl
theorem nt109 : Tryz.f109.ntmps = 9 := by kernel_rfl
theorem nt11 : Tryz.f11.ntmps = 172 := by kernel_rfl
theorem nt110 : Tryz.f110.ntmps = 4 := by kernel_rfl
theorem nt111 : Tryz.f111.ntmps = 43 := by kernel_rfl
theorem nt113 : Tryz.f113.ntmps = 25 := by kernel_rfl
theorem nt114 : Tryz.f114.ntmps = 13 := by kernel_rfl
theorem nt115 : Tryz.f115.ntmps = 18 := by kernel_rfl
theorem nt116 : Tryz.f116.ntmps = 36 := by kernel_rfl
theorem nt117 : Tryz.f117.ntmps = 51 := by kernel_rfl
theorem nt118 : Tryz.f118.ntmps = 66 := by kernel_rfl
theorem nt119 : Tryz.f119.ntmps = 18 := by kernel_rfl
theorem nt12 : Tryz.f12.ntmps = 173 := by kernel_rfl
theorem nt120 : Tryz.f120.ntmps = 32 := by kernel_rfl
theorem nt121 : Tryz.f121.ntmps = 6 := by kernel_rfl
theorem nt122 : Tryz.f122.ntmps = 37 := by kernel_rfl
theorem nt123 : Tryz.f123.ntmps = 60 := by kernel_rfl
theorem nt124 : Tryz.f124.ntmps = 27 := by kernel_rfl
theorem nt127 : Tryz.f127.ntmps = 33 := by kernel_rfl
theorem nt13 : Tryz.f13.ntmps = 36 := by kernel_rfl
theorem nt14 : Tryz.f14.ntmps = 52 := by kernel_rfl
theorem nt15 : Tryz.f15.ntmps = 63 := by kernel_rfl
theorem nt17 : Tryz.f17.ntmps = 50 := by kernel_rfl
theorem nt170 : Tryz.f170.ntmps = 19 := by kernel_rfl
theorem nt172 : Tryz.f172.ntmps = 47 := by kernel_rfl
theorem nt173 : Tryz.f173.ntmps = 2 := by kernel_rfl
theorem nt174 : Tryz.f174.ntmps = 137 := by kernel_rfl
theorem nt18 : Tryz.f18.ntmps = 36 := by kernel_rfl
theorem nt22 : Tryz.f22.ntmps = 37 := by kernel_rfl
theorem nt224 : Tryz.f224.ntmps = 199 := by kernel_rfl
theorem nt225 : Tryz.f225.ntmps = 5 := by kernel_rfl
theorem nt226 : Tryz.f226.ntmps = 31 := by kernel_rfl
theorem nt227 : Tryz.f227.ntmps = 68 := by kernel_rfl
theorem nt25 : Tryz.f25.ntmps = 152 := by kernel_rfl
theorem nt26 : Tryz.f26.ntmps = 78 := by kernel_rfl
theorem nt269 : Tryz.f269.ntmps = 13 := by kernel_rfl
theorem nt27 : Tryz.f27.ntmps = 37 := by kernel_rfl
theorem nt270 : Tryz.f270.ntmps = 16 := by kernel_rfl
theorem nt271 : Tryz.f271.ntmps = 24 := by kernel_rfl
theorem nt272 : Tryz.f272.ntmps = 19 := by kernel_rfl
theorem nt28 : Tryz.f28.ntmps = 15 := by kernel_rfl
theorem nt29 : Tryz.f29.ntmps = 209 := by kernel_rfl
theorem nt3 : Tryz.f3.ntmps = 109 := by kernel_rfl
theorem nt30 : Tryz.f30.ntmps = 33 := by kernel_rfl
theorem nt31 : Tryz.f31.ntmps = 22 := by kernel_rfl
theorem nt32 : Tryz.f32.ntmps = 194 := by kernel_rfl
theorem nt33 : Tryz.f33.ntmps = 8 := by kernel_rfl
theorem nt34 : Tryz.f34.ntmps = 148 := by kernel_rfl
theorem nt35 : Tryz.f35.ntmps = 50 := by kernel_rfl
theorem nt36 : Tryz.f36.ntmps = 14 := by kernel_rfl
theorem nt37 : Tryz.f37.ntmps = 76 := by kernel_rfl
theorem nt40 : Tryz.f40.ntmps = 200 := by kernel_rfl
theorem nt41 : Tryz.f41.ntmps = 8 := by kernel_rfl
theorem nt53 : Tryz.f53.ntmps = 13 := by kernel_rfl
theorem nt54 : Tryz.f54.ntmps = 9 := by kernel_rfl
theorem nt55 : Tryz.f55.ntmps = 15 := by kernel_rfl
theorem nt58 : Tryz.f58.ntmps = 15 := by kernel_rfl
theorem nt59 : Tryz.f59.ntmps = 13 := by kernel_rfl
theorem nt60 : Tryz.f60.ntmps = 48 := by kernel_rfl
theorem nt61 : Tryz.f61.ntmps = 113 := by kernel_rfl
theorem nt62 : Tryz.f62.ntmps = 9 := by kernel_rfl
theorem nt63 : Tryz.f63.ntmps = 9 := by kernel_rfl
theorem nt64 : Tryz.f64.ntmps = 5 := by kernel_rfl
theorem nt65 : Tryz.f65.ntmps = 15 := by kernel_rfl
theorem nt66 : Tryz.f66.ntmps = 5 := by kernel_rfl
theorem nt67 : Tryz.f67.ntmps = 23 := by kernel_rfl
theorem nt68 : Tryz.f68.ntmps = 6 := by kernel_rfl
theorem nt69 : Tryz.f69.ntmps = 128 := by kernel_rfl
theorem nt7 : Tryz.f7.ntmps = 99 := by kernel_rfl
theorem nt70 : Tryz.f70.ntmps = 18 := by kernel_rfl
theorem nt71 : Tryz.f71.ntmps = 13 := by kernel_rfl
theorem nt73 : Tryz.f73.ntmps = 72 := by kernel_rfl
theorem nt74 : Tryz.f74.ntmps = 37 := by kernel_rfl
theorem nt75 : Tryz.f75.ntmps = 202 := by kernel_rfl
theorem nt76 : Tryz.f76.ntmps = 19 := by kernel_rfl
theorem nt77 : Tryz.f77.ntmps = 6 := by kernel_rfl
theorem nt78 : Tryz.f78.ntmps = 62 := by kernel_rfl
theorem nt79 : Tryz.f79.ntmps = 65 := by kernel_rfl
theorem nt8 : Tryz.f8.ntmps = 6 := by kernel_rfl
theorem nt80 : Tryz.f80.ntmps = 50 := by kernel_rfl
theorem nt81 : Tryz.f81.ntmps = 20 := by kernel_rfl
theorem nt82 : Tryz.f82.ntmps = 24 := by kernel_rfl
theorem nt83 : Tryz.f83.ntmps = 35 := by kernel_rfl
theorem nt84 : Tryz.f84.ntmps = 51 := by kernel_rfl
theorem nt85 : Tryz.f85.ntmps = 72 := by kernel_rfl
theorem nt86 : Tryz.f86.ntmps = 36 := by kernel_rfl
theorem nt9 : Tryz.f9.ntmps = 76 := by kernel_rfl
theorem okt112 : okT Tryz.prog 112 = true := by kernel_rfl
theorem okt134 : okT Tryz.prog 134 = true := by kernel_rfl
theorem okt146 : okT Tryz.prog 146 = true := by kernel_rfl
theorem okt157 : okT Tryz.prog 157 = true := by kernel_rfl
theorem okt22 : okT Tryz.prog 22 = true := by kernel_rfl
theorem okt23 : okT Tryz.prog 23 = true := by kernel_rfl
theorem okt234 : okT Tryz.prog 234 = true := by kernel_rfl
theorem okt24 : okT Tryz.prog 24 = true := by kernel_rfl
theorem okt25 : okT Tryz.prog 25 = true := by kernel_rfl
theorem okt275 : okT Tryz.prog 275 = true := by kernel_rfl
theorem okt340 : okT Tryz.prog 340 = true := by kernel_rfl
theorem okt345 : okT Tryz.prog 345 = true := by kernel_rfl
theorem okt351 : okT Tryz.prog 351 = true := by kernel_rfl
theorem okt36 : okT Tryz.prog 36 = true := by kernel_rfl
theorem okt369 : okT Tryz.prog 369 = true := by kernel_rfl
theorem okt39 : okT Tryz.prog 39 = true := by kernel_rfl
theorem okt40 : okT Tryz.prog 40 = true := by kernel_rfl
theorem okt43 : okT Tryz.prog 43 = true := by kernel_rfl
theorem okt58 : okT Tryz.prog 58 = true := by kernel_rfl
theorem okt65 : okT Tryz.prog 65 = true := by kernel_rfl
theorem okt68 : okT Tryz.prog 68 = true := by kernel_rfl
theorem okt72 : okT Tryz.prog 72 = true := by kernel_rfl
theorem okt76 : okT Tryz.prog 76 = true := by kernel_rfl
theorem okt77 : okT Tryz.prog 77 = true := by kernel_rfl
theorem okt80 : okT Tryz.prog 80 = true := by kernel_rfl
theorem okt93 : okT Tryz.prog 93 = true := by kernel_rfl
theorem okt99 : okT Tryz.prog 99 = true := by kernel_rfl
theorem row112 : rowT Tryz.prog 112 = some (116, 2, [(.string ⟨#[]⟩), (.string ⟨#[]⟩)]) := by kernel_rfl
theorem row134 : rowT Tryz.prog 134 = some (5, 1, [(.int .u8 (0))]) := by kernel_rfl
theorem row146 : rowT Tryz.prog 146 = some (199, 3, [(.int .i64 (0)), (.string ⟨#[]⟩), (.int .i64 (0))]) := by kernel_rfl
theorem row157 : rowT Tryz.prog 157 = some (29, 3, [(.int .i64 (0)), (.int .i64 (0)), (.string ⟨#[]⟩)]) := by kernel_rfl
theorem row22 : rowT Tryz.prog 22 = some (52, 14, [(.string ⟨#[]⟩), (.slice none 0 0), (.bool false), (.int .i64 (0)), (.int .i64 (0)), (.int .i64 (0)), (.int .i64 (0)), (.int .i64 (0)), (.string ⟨#[]⟩), (.int .i64 (0)), (.slice none 0 0), (.slice none 0 0), (.slice none 0 0), (.slice none 0 0)]) := by kernel_rfl
theorem row23 : rowT Tryz.prog 23 = some (79, 21, [(.bool false), (.bool false), (.slice none 0 0), (.slice none 0 0), (.bool false), (.bool false), (.int .i64 (0)), (.int .i64 (0)), (.int .i64 (0)), (.string ⟨#[]⟩), (.string ⟨#[]⟩), (.string ⟨#[]⟩), (.slice none 0 0), (.int .i64 (0)), (.int .i64 (0)), (.int .i64 (0)), (.string ⟨#[]⟩), (.string ⟨#[]⟩), (.string ⟨#[]⟩), (.slice none 0 0), (.slice none 0 0)]) := by kernel_rfl
theorem row234 : rowT Tryz.prog 234 = some (93, 1, [(.slice none 0 0)]) := by kernel_rfl
theorem row24 : rowT Tryz.prog 24 = some (3, 1, [(.int .i64 (0))]) := by kernel_rfl
theorem row25 : rowT Tryz.prog 25 = some (31, 7, [(.int .i64 (0)), (.int .i64 (0)), (.int .i64 (0)), (.string ⟨#[]⟩), (.string ⟨#[]⟩), (.string ⟨#[]⟩), (.slice none 0 0)]) := by kernel_rfl
theorem row275 : rowT Tryz.prog 275 = some (278, 3, [(.slice none 0 0), (.int .i64 (0)), (.bool false)]) := by kernel_rfl
theorem row340 : rowT Tryz.prog 340 = some (32, 1, [(.int .i64 (0))]) := by kernel_rfl
theorem row345 : rowT Tryz.prog 345 = some (21, 1, [(.int .i32 (0))]) := by kernel_rfl
theorem row351 : rowT Tryz.prog 351 = some (353, 2, [(.slice none 0 0), (.slice none 0 0)]) := by kernel_rfl
theorem row36 : rowT Tryz.prog 36 = some (38, 6, [(.int .i64 (0)), (.int .i64 (0)), (.int .i64 (0)), (.string ⟨#[]⟩), (.int .i64 (0)), (.slice none 0 0)]) := by kernel_rfl
theorem row369 : rowT Tryz.prog 369 = some (325, 1, [.nilFunc]) := by kernel_rfl
theorem row39 : rowT Tryz.prog 39 = some (119, 7, [(.int .i64 (0)), (.int .i64 (0)), (.int .i64 (0)), (.int .i64 (0)), (.string ⟨#[]⟩), (.int .i64 (0)), (.slice none 0 0)]) := by kernel_rfl
theorem row40 : rowT Tryz.prog 40 = some (42, 11, [(.int .i64 (0)), (.int .i64 (0)), (.int .i64 (0)), (.int .i64 (0)), (.int .i64 (0)), (.string ⟨#[]⟩), (.int .i64 (0)), (.slice none 0 0), (.slice none 0 0), (.slice none 0 0), (.slice none 0 0)]) := by kernel_rfl
theorem row43 : rowT Tryz.prog 43 = some (48, 2, [(.string ⟨#[]⟩), (.int .i64 (0))]) := by kernel_rfl
theorem row58 : rowT Tryz.prog 58 = some (24, 1, [(.slice none 0 0)]) := by kernel_rfl
theorem row65 : rowT Tryz.prog 65 = some (157, 1, [(.slice none 0 0)]) := by kernel_rfl
theorem row68 : rowT Tryz.prog 68 = some (67, 16, [(.int .i64 (0)), (.string ⟨#[]⟩), (.slice none 0 0), (.slice none 0 0), (.slice none 0 0), (.slice none 0 0), (.int .i64 (0)), (.slice none 0 0), (.bool false), (.int .i64 (0)), (.int .i64 (0)), (.int .i64 (0)), (.string ⟨#[]⟩), (.string ⟨#[]⟩), (.string ⟨#[]⟩), (.slice none 0 0)]) := by kernel_rfl
theorem row72 : rowT Tryz.prog 72 = some (80, 1, [(.slice none 0 0)]) := by kernel_rfl
theorem row76 : rowT Tryz.prog 76 = some (75, 10, [(.int .i64 (0)), (.string ⟨#[]⟩), (.string ⟨#[]⟩), (.int .i64 (0)), (.int .i64 (0)), (.int .i64 (0)), (.string ⟨#[]⟩), (.string ⟨#[]⟩), (.string ⟨#[]⟩), (.slice none 0 0)]) := by kernel_rfl
theorem row77 : rowT Tryz.prog 77 = some (161, 8, [(.int .i64 (0)), (.int .i64 (0)), (.int .i64 (0)), (.string ⟨#[]⟩), (.string ⟨#[]⟩), (.string ⟨#[]⟩), (.slice none 0 0), (.string ⟨#[]⟩)]) := by kernel_rfl
theorem row80 : rowT Tryz.prog 80 = some (159, 2, [(.slice none 0 0), (.int .i64 (0))]) := by kernel_rfl
theorem row93 : rowT Tryz.prog 93 = some (9, 1, [(.string ⟨#[]⟩)]) := by kernel_rfl
theorem row99 : rowT Tryz.prog 99 = some (104, 2, [(.string ⟨#[]⟩), (.string ⟨#[]⟩)]) := by kernel_rfl
theorem rs10 : Tryz.f10.results.toList = [.cell 4 42, .cell 5 43, .cell 6 32] := by kernel_rfl
theorem rs105 : Tryz.f105.results.toList = [.cell 4 42, .tmp 5] := by kernel_rfl
theorem rs106 : Tryz.f106.results.toList = [.tmp 4] := by kernel_rfl
theorem rs107 : Tryz.f107.results.toList = [.tmp 2] := by kernel_rfl
theorem rs108 : Tryz.f108.results.toList = [.tmp 4] := by kernel_rfl
theorem rs109 : Tryz.f109.results.toList = [.tmp 4] := by kernel_rfl
theorem rs11 : Tryz.f11.results.toList = [.cell 4 42, .tmp 5, .tmp 6] := by kernel_rfl
theorem rs110 : Tryz.f110.results.toList = [.tmp 2] := by kernel_rfl
theorem rs111 : Tryz.f111.results.toList = [.cell 4 42, .tmp 5, .tmp 6] := by kernel_rfl
theorem rs113 : Tryz.f113.results.toList = [.cell 2 29] := by kernel_rfl
theorem rs114 : Tryz.f114.results.toList = [.tmp 2] := by kernel_rfl
theorem rs115 : Tryz.f115.results.toList = [.tmp 4] := by kernel_rfl
theorem rs116 : Tryz.f116.results.toList = [.tmp 4, .tmp 5] := by kernel_rfl
theorem rs117 : Tryz.f117.results.toList = [.tmp 4, .tmp 5] := by kernel_rfl
theorem rs118 : Tryz.f118.results.toList = [.tmp 4, .tmp 5] := by kernel_rfl
theorem rs119 : Tryz.f119.results.toList = [.cell 2 29] := by kernel_rfl
theorem rs12 : Tryz.f12.results.toList = [.tmp 4] := by kernel_rfl
theorem rs120 : Tryz.f120.results.toList = [.tmp 6] := by kernel_rfl
theorem rs121 : Tryz.f121.results.toList = [.tmp 4] := by kernel_rfl
theorem rs122 : Tryz.f122.results.toList = [.tmp 4, .tmp 5] := by kernel_rfl
theorem rs123 : Tryz.f123.results.toList = [.tmp 4, .tmp 5] := by kernel_rfl
theorem rs124 : Tryz.f124.results.toList = [.tmp 4] := by kernel_rfl
theorem rs127 : Tryz.f127.results.toList = [.tmp 2] := by kernel_rfl
theorem rs13 : Tryz.f13.results.toList = [.cell 4 38, .cell 5 32] := by kernel_rfl
theorem rs14 : Tryz.f14.results.toList = [.cell 4 38, .tmp 5] := by kernel_rfl
theorem rs15 : Tryz.f15.results.toList = [.tmp 4] := by kernel_rfl
theorem rs17 : Tryz.f17.results.toList = [.tmp 4, .tmp 5] := by kernel_rfl
theorem rs170 : Tryz.f170.results.toList = [.tmp 4] := by kernel_rfl
theorem rs172 : Tryz.f172.results.toList = [.tmp 4, .tmp 5] := by kernel_rfl
theorem rs173 : Tryz.f173.results.toList = [.cell 0 29] := by kernel_rfl
theorem rs174 : Tryz.f174.results.toList = [.tmp 6, .tmp 7] := by kernel_rfl
theorem rs18 : Tryz.f18.results.toList = [.tmp 2] := by kernel_rfl
theorem rs22 : Tryz.f22.results.toList = [.tmp 2] := by kernel_rfl
theorem rs224 : Tryz.f224.results.toList = [.tmp 6, .tmp 7] := by kernel_rfl
theorem rs225 : Tryz.f225.results.toList = [.tmp 2] := by kernel_rfl
theorem rs226 : Tryz.f226.results.toList = [.tmp 2] := by kernel_rfl
theorem rs227 : Tryz.f227.results.toList = [.tmp 4, .tmp 5] := by kernel_rfl
theorem rs25 : Tryz.f25.results.toList = [.tmp 2] := by kernel_rfl
theorem rs26 : Tryz.f26.results.toList = [.tmp 6] := by kernel_rfl
theorem rs269 : Tryz.f269.results.toList = [.tmp 2] := by kernel_rfl
theorem rs27 : Tryz.f27.results.toList = [.tmp 2] := by kernel_rfl
theorem rs270 : Tryz.f270.results.toList = [.tmp 4] := by kernel_rfl
theorem rs271 : Tryz.f271.results.toList = [.tmp 4] := by kernel_rfl
theorem rs272 : Tryz.f272.results.toList = [.tmp 4, .tmp 5] := by kernel_rfl
theorem rs28 : Tryz.f28.results.toList = [] := by kernel_rfl
theorem rs29 : Tryz.f29.results.toList = [.cell 4 42, .tmp 5] := by kernel_rfl
theorem rs3 : Tryz.f3.results.toList = [.tmp 6] := by kernel_rfl
theorem rs30 : Tryz.f30.results.toList = [.cell 6 42] := by kernel_rfl
theorem rs31 : Tryz.f31.results.toList = [.tmp 4] := by kernel_rfl
theorem rs32 : Tryz.f32.results.toList = [.cell 6 42, .tmp 7] := by kernel_rfl
theorem rs33 : Tryz.f33.results.toList = [.cell 4 42] := by kernel_rfl
theorem rs34 : Tryz.f34.results.toList = [.cell 6 38] := by kernel_rfl
theorem rs35 : Tryz.f35.results.toList = [.tmp 4, .tmp 5] := by kernel_rfl
theorem rs36 : Tryz.f36.results.toList = [] := by kernel_rfl
theorem rs37 : Tryz.f37.results.toList = [.cell 4 38] := by kernel_rfl
theorem rs40 : Tryz.f40.results.toList = [.tmp 6, .tmp 7] := by kernel_rfl
theorem rs41 : Tryz.f41.results.toList = [.tmp 2] := by kernel_rfl
theorem rs53 : Tryz.f53.results.toList = [.tmp 2] := by kernel_rfl
theorem rs54 : Tryz.f54.results.toList = [.tmp 2] := by kernel_rfl
theorem rs55 : Tryz.f55.results.toList = [.tmp 2] := by kernel_rfl
theorem rs58 : Tryz.f58.results.toList = [.tmp 4] := by kernel_rfl
theorem rs59 : Tryz.f59.results.toList = [.tmp 2] := by kernel_rfl
theorem rs60 : Tryz.f60.results.toList = [.tmp 2] := by kernel_rfl
theorem rs61 : Tryz.f61.results.toList = [.cell 4 42, .tmp 5] := by kernel_rfl
theorem rs62 : Tryz.f62.results.toList = [.cell 4 42] := by kernel_rfl
theorem rs63 : Tryz.f63.results.toList = [.tmp 4] := by kernel_rfl
theorem rs64 : Tryz.f64.results.toList = [.tmp 2] := by kernel_rfl
theorem rs65 : Tryz.f65.results.toList = [.tmp 2] := by kernel_rfl
theorem rs66 : Tryz.f66.results.toList = [] := by kernel_rfl
theorem rs67 : Tryz.f67.results.toList = [.tmp 4] := by kernel_rfl
theorem rs68 : Tryz.f68.results.toList = [.cell 2 42] := by kernel_rfl
theorem rs69 : Tryz.f69.results.toList = [.cell 6 42, .tmp 7] := by kernel_rfl
theorem rs7 : Tryz.f7.results.toList = [.tmp 2] := by kernel_rfl
theorem rs70 : Tryz.f70.results.toList = [.tmp 2] := by kernel_rfl
theorem rs71 : Tryz.f71.results.toList = [] := by kernel_rfl
theorem rs73 : Tryz.f73.results.toList = [.tmp 4] := by kernel_rfl
theorem rs74 : Tryz.f74.results.toList = [.tmp 4] := by kernel_rfl
theorem rs75 : Tryz.f75.results.toList = [.tmp 6, .tmp 7] := by kernel_rfl
theorem rs76 : Tryz.f76.results.toList = [.tmp 4] := by kernel_rfl
theorem rs77 : Tryz.f77.results.toList = [.tmp 3] := by kernel_rfl
theorem rs78 : Tryz.f78.results.toList = [.tmp 4] := by kernel_rfl
theorem rs79 : Tryz.f79.results.toList = [.cell 4 38] := by kernel_rfl
theorem rs8 : Tryz.f8.results.toList = [.tmp 2] := by kernel_rfl
theorem rs80 : Tryz.f80.results.toList = [.tmp 4] := by kernel_rfl
theorem rs81 : Tryz.f81.results.toList = [.tmp 2] := by kernel_rfl
theorem rs82 : Tryz.f82.results.toList = [.tmp 4] := by kernel_rfl
theorem rs83 : Tryz.f83.results.toList = [.tmp 4, .tmp 5] := by kernel_rfl
theorem rs84 : Tryz.f84.results.toList = [.tmp 4, .tmp 5] := by kernel_rfl
theorem rs85 : Tryz.f85.results.toList = [.tmp 4, .tmp 5] := by kernel_rfl
theorem rs86 : Tryz.f86.results.toList = [.tmp 2] := by kernel_rfl
theorem rs9 : Tryz.f9.results.toList = [.tmp 2] := by kernel_rfl
theorem tk100 : tk Tryz.prog 100 = some (false, 1, (.pointer none)) := by kernel_rfl
theorem tk104 : tk Tryz.prog 104 = some (true, 2, (.agg #[(.string ⟨#[]⟩), (.string ⟨#[]⟩)])) := by kernel_rfl
theorem tk112 : tk Tryz.prog 112 = some (false, 1, (.slice none 0 0)) := by kernel_rfl
theorem tk116 : tk Tryz.prog 116 = some (true, 2, (.agg #[(.string ⟨#[]⟩), (.string ⟨#[]⟩)])) := by kernel_rfl
theorem tk119 : tk Tryz.prog 119 = some (true, 7, (.agg #[(.int .i64 (0)), (.int .i64 (0)), (.int .i64 (0)), (.int .i64 (0)), (.string ⟨#[]⟩), (.int .i64 (0)), (.slice none 0 0)])) := by kernel_rfl
theorem tk121 : tk Tryz.prog 121 = some (false, 1, (.pointer none)) := by kernel_rfl
theorem tk133 : tk Tryz.prog 133 = some (false, 1, (.pointer none)) := by kernel_rfl
theorem tk134 : tk Tryz.prog 134 = some (false, 1, (.slice none 0 0)) := by kernel_rfl
theorem tk136 : tk Tryz.prog 136 = some (true, 2, (.agg #[(.pointer none), (.slice none 0 0)])) := by kernel_rfl
theorem tk144 : tk Tryz.prog 144 = some (true, 2, (.agg #[(.int .i64 (0)), (.int .i64 (0))])) := by kernel_rfl
theorem tk145 : tk Tryz.prog 145 = some (false, 1, (.pointer none)) := by kernel_rfl
theorem tk146 : tk Tryz.prog 146 = some (false, 1, (.slice none 0 0)) := by kernel_rfl
theorem tk153 : tk Tryz.prog 153 = some (false, 1, .nilFunc) := by kernel_rfl
theorem tk157 : tk Tryz.prog 157 = some (false, 1, (.slice none 0 0)) := by kernel_rfl
theorem tk159 : tk Tryz.prog 159 = some (true, 2, (.agg #[(.slice none 0 0), (.int .i64 (0))])) := by kernel_rfl
theorem tk161 : tk Tryz.prog 161 = some (true, 8, (.agg #[(.int .i64 (0)), (.int .i64 (0)), (.int .i64 (0)), (.string ⟨#[]⟩), (.string ⟨#[]⟩), (.string ⟨#[]⟩), (.slice none 0 0), (.string ⟨#[]⟩)])) := by kernel_rfl
theorem tk199 : tk Tryz.prog 199 = some (true, 3, (.agg #[(.int .i64 (0)), (.string ⟨#[]⟩), (.int .i64 (0))])) := by kernel_rfl
theorem tk2 : tk Tryz.prog 2 = some (false, 1, (.int .i64 (0))) := by kernel_rfl
theorem tk21 : tk Tryz.prog 21 = some (false, 1, (.int .i32 (0))) := by kernel_rfl
theorem tk211 : tk Tryz.prog 211 = some (false, 1, (.pointer none)) := by kernel_rfl
theorem tk22 : tk Tryz.prog 22 = some (false, 1, (.slice none 0 0)) := by kernel_rfl
theorem tk23 : tk Tryz.prog 23 = some (false, 1, (.slice none 0 0)) := by kernel_rfl
theorem tk24 : tk Tryz.prog 24 = some (false, 1, (.slice none 0 0)) := by kernel_rfl
theorem tk25 : tk Tryz.prog 25 = some (false, 1, (.slice none 0 0)) := by kernel_rfl
theorem tk268 : tk Tryz.prog 268 = some (false, 1, (.pointer none)) := by kernel_rfl
theorem tk27 : tk Tryz.prog 27 = some (true, 4, (.agg #[(.slice none 0 0), (.slice none 0 0), (.slice none 0 0), (.int .i64 (0))])) := by kernel_rfl
theorem tk278 : tk Tryz.prog 278 = some (true, 3, (.agg #[(.slice none 0 0), (.int .i64 (0)), (.bool false)])) := by kernel_rfl
theorem tk29 : tk Tryz.prog 29 = some (true, 3, (.agg #[(.int .i64 (0)), (.int .i64 (0)), (.string ⟨#[]⟩)])) := by kernel_rfl
theorem tk3 : tk Tryz.prog 3 = some (false, 1, (.int .i64 (0))) := by kernel_rfl
theorem tk303 : tk Tryz.prog 303 = some (false, 1, (.slice none 0 0)) := by kernel_rfl
theorem tk31 : tk Tryz.prog 31 = some (true, 7, (.agg #[(.int .i64 (0)), (.int .i64 (0)), (.int .i64 (0)), (.string ⟨#[]⟩), (.string ⟨#[]⟩), (.string ⟨#[]⟩), (.slice none 0 0)])) := by kernel_rfl
theorem tk32 : tk Tryz.prog 32 = some (false, 1, (.int .i64 (0))) := by kernel_rfl
theorem tk325 : tk Tryz.prog 325 = some (false, 1, .nilFunc) := by kernel_rfl
theorem tk353 : tk Tryz.prog 353 = some (true, 2, (.agg #[(.slice none 0 0), (.slice none 0 0)])) := by kernel_rfl
theorem tk36 : tk Tryz.prog 36 = some (false, 1, (.slice none 0 0)) := by kernel_rfl
theorem tk38 : tk Tryz.prog 38 = some (true, 6, (.agg #[(.int .i64 (0)), (.int .i64 (0)), (.int .i64 (0)), (.string ⟨#[]⟩), (.int .i64 (0)), (.slice none 0 0)])) := by kernel_rfl
theorem tk388 : tk Tryz.prog 388 = some (true, 2, (.agg #[(.int .i64 (0)), (.int .i64 (0))])) := by kernel_rfl
theorem tk39 : tk Tryz.prog 39 = some (false, 1, (.slice none 0 0)) := by kernel_rfl
theorem tk4 : tk Tryz.prog 4 = some (false, 1, (.bool false)) := by kernel_rfl
theorem tk40 : tk Tryz.prog 40 = some (false, 1, (.slice none 0 0)) := by kernel_rfl
theorem tk42 : tk Tryz.prog 42 = some (true, 11, (.agg #[(.int .i64 (0)), (.int .i64 (0)), (.int .i64 (0)), (.int .i64 (0)), (.int .i64 (0)), (.string ⟨#[]⟩), (.int .i64 (0)), (.slice none 0 0), (.slice none 0 0), (.slice none 0 0), (.slice none 0 0)])) := by kernel_rfl
theorem tk43 : tk Tryz.prog 43 = some (false, 1, (.slice none 0 0)) := by kernel_rfl
theorem tk48 : tk Tryz.prog 48 = some (true, 2, (.agg #[(.string ⟨#[]⟩), (.int .i64 (0))])) := by kernel_rfl
theorem tk5 : tk Tryz.prog 5 = some (false, 1, (.int .u8 (0))) := by kernel_rfl
theorem tk52 : tk Tryz.prog 52 = some (true, 14, (.agg #[(.string ⟨#[]⟩), (.slice none 0 0), (.bool false), (.int .i64 (0)), (.int .i64 (0)), (.int .i64 (0)), (.int .i64 (0)), (.int .i64 (0)), (.string ⟨#[]⟩), (.int .i64 (0)), (.slice none 0 0), (.slice none 0 0), (.slice none 0 0), (.slice none 0 0)])) := by kernel_rfl
theorem tk58 : tk Tryz.prog 58 = some (false, 1, (.slice none 0 0)) := by kernel_rfl
theorem tk62 : tk Tryz.prog 62 = some (true, 2, (.agg #[(.int .i64 (0)), (.int .i64 (0))])) := by kernel_rfl
theorem tk65 : tk Tryz.prog 65 = some (false, 1, (.slice none 0 0)) := by kernel_rfl
theorem tk67 : tk Tryz.prog 67 = some (true, 16, (.agg #[(.int .i64 (0)), (.string ⟨#[]⟩), (.slice none 0 0), (.slice none 0 0), (.slice none 0 0), (.slice none 0 0), (.int .i64 (0)), (.slice none 0 0), (.bool false), (.int .i64 (0)), (.int .i64 (0)), (.int .i64 (0)), (.string ⟨#[]⟩), (.string ⟨#[]⟩), (.string ⟨#[]⟩), (.slice none 0 0)])) := by kernel_rfl
theorem tk68 : tk Tryz.prog 68 = some (false, 1, (.slice none 0 0)) := by kernel_rfl
theorem tk75 : tk Tryz.prog 75 = some (true, 10, (.agg #[(.int .i64 (0)), (.string ⟨#[]⟩), (.string ⟨#[]⟩), (.int .i64 (0)), (.int .i64 (0)), (.int .i64 (0)), (.string ⟨#[]⟩), (.string ⟨#[]⟩), (.string ⟨#[]⟩), (.slice none 0 0)])) := by kernel_rfl
theorem tk76 : tk Tryz.prog 76 = some (false, 1, (.slice none 0 0)) := by kernel_rfl
theorem tk77 : tk Tryz.prog 77 = some (false, 1, (.slice none 0 0)) := by kernel_rfl
theorem tk79 : tk Tryz.prog 79 = some (true, 21, (.agg #[(.bool false), (.bool false), (.slice none 0 0), (.slice none 0 0), (.bool false), (.bool false), (.int .i64 (0)), (.int .i64 (0)), (.int .i64 (0)), (.string ⟨#[]⟩), (.string ⟨#[]⟩), (.string ⟨#[]⟩), (.slice none 0 0), (.int .i64 (0)), (.int .i64 (0)), (.int .i64 (0)), (.string ⟨#[]⟩), (.string ⟨#[]⟩), (.string ⟨#[]⟩), (.slice none 0 0), (.slice none 0 0)])) := by kernel_rfl
theorem tk80 : tk Tryz.prog 80 = some (false, 1, (.slice none 0 0)) := by kernel_rfl
theorem tk89 : tk Tryz.prog 89 = some (true, 1, (.agg #[(.int .i64 (0))])) := by kernel_rfl
theorem tk9 : tk Tryz.prog 9 = some (false, 1, (.string ⟨#[]⟩)) := by kernel_rfl
theorem tk93 : tk Tryz.prog 93 = some (false, 1, (.slice none 0 0)) := by kernel_rfl
theorem tk96 : tk Tryz.prog 96 = some (false, 1, (.pointer none)) := by kernel_rfl
theorem tk98 : tk Tryz.prog 98 = some (false, 1, (.pointer none)) := by kernel_rfl
theorem tk99 : tk Tryz.prog 99 = some (false, 1, (.slice none 0 0)) := by kernel_rfl
def dr3 : List (Nat × Sched) := [(10, .take 0 <| .take 1 <| .take 2 <| .take 4 <| .take 5 <| .take 6 <| .take 3 <| .take 7 <| .take 8 <| .done), (15, .take 0 <| .take 1 <| .take 2 <| .take 3 <| .eff 4 false (.take 5 <| .take 6 <| .take 7 <| .eff 8 false (.eff 9 true (.take 10 <| .done) <| .no) <| .no) <| .eff 8 false (.eff 4 true (.take 5 <| .take 6 <| .take 7 <| .eff 9 true (.take 10 <| .done) <| .no) <| .no) <| .no), (16, .take 0 <| .take 1 <| .take 2 <| .take 3 <| .eff 4 false (.take 5 <| .take 6 <| .take 7 <| .eff 8 false (.eff 9 true (.take 10 <| .done) <| .no) <| .no) <| .eff 8 false (.eff 4 true (.take 5 <| .take 6 <| .take 7 <| .eff 9 true (.take 10 <| .done) <| .no) <| .no) <| .no)]
def dr4 : List (Nat × Sched) := [(8, .take 0 <| .take 2 <| .eff 1 false (.eff 3 true (.take 4 <| .take 5 <| .take 6 <| .take 7 <| .take 8 <| .done) <| .no) <| .no), (14, .take 0 <| .take 1 <| .take 2 <| .take 3 <| .take 5 <| .take 6 <| .take 7 <| .take 4 <| .take 8 <| .take 9 <| .done)]
def dr5 : List (Nat × Sched) := [(13, .take 0 <| .take 1 <| .take 2 <| .take 3 <| .take 4 <| .take 5 <| .take 6 <| .take 7 <| .take 9 <| .eff 8 false (.eff 10 false (.eff 11 false (.take 12 <| .take 13 <| .take 14 <| .done) <| .no) <| .no) <| .no)]
def dr6 : List (Nat × Sched) := [(14, .take 1 <| .take 3 <| .take 4 <| .take 5 <| .take 6 <| .eff 0 false (.eff 2 false (.eff 7 false (.eff 8 false (.take 9 <| .done) <| .no) <| .no) <| .eff 7 false (.eff 2 false (.eff 8 false (.take 9 <| .done) <| .no) <| .no) <| .no) <| .eff 7 false (.eff 0 false (.eff 2 false (.eff 8 false (.take 9 <| .done) <| .no) <| .no) <| .no) <| .no), (19, .take 0 <| .take 3 <| .take 2 <| .eff 1 false (.eff 4 true (.take 5 <| .take 6 <| .take 7 <| .take 8 <| .take 9 <| .done) <| .no) <| .no), (20, .take 0 <| .take 3 <| .take 2 <| .eff 1 false (.eff 4 true (.take 5 <| .take 6 <| .take 7 <| .take 8 <| .take 9 <| .done) <| .no) <| .no)]
def dr7 : List (Nat × Sched) := []
def dr8 : List (Nat × Sched) := []
def dr9 : List (Nat × Sched) := [(18, .take 0 <| .take 1 <| .take 2 <| .take 4 <| .take 6 <| .take 3 <| .take 5 <| .take 7 <| .take 8 <| .take 9 <| .take 10 <| .done)]
def dr10 : List (Nat × Sched) := [(10, .take 0 <| .take 2 <| .take 3 <| .take 1 <| .take 4 <| .take 5 <| .take 6 <| .take 7 <| .eff 8 false (.eff 9 true (.done) <| .no) <| .no), (19, .take 0 <| .take 2 <| .take 3 <| .take 1 <| .take 4 <| .take 6 <| .eff 5 false (.eff 7 false (.take 8 <| .eff 9 true (.done) <| .no) <| .no) <| .eff 7 false (.eff 5 false (.take 8 <| .eff 9 true (.done) <| .no) <| .no) <| .no), (20, .take 0 <| .take 2 <| .eff 1 false (.eff 3 true (.take 4 <| .take 5 <| .take 6 <| .take 7 <| .eff 8 true (.done) <| .no) <| .no) <| .no), (22, .take 0 <| .take 1 <| .eff 2 false (.eff 3 false (.eff 4 true (.done) <| .no) <| .no) <| .no), (26, .take 1 <| .take 2 <| .take 3 <| .take 5 <| .take 0 <| .take 4 <| .take 6 <| .eff 7 false (.eff 8 false (.eff 9 true (.done) <| .no) <| .no) <| .no), (28, .take 0 <| .take 1 <| .eff 2 false (.eff 3 true (.eff 4 true (.done) <| .no) <| .no) <| .no)]
def dr11 : List (Nat × Sched) := [(11, .take 0 <| .take 3 <| .eff 1 false (.eff 2 false (.eff 4 false (.eff 5 false (.eff 6 false (.eff 7 false (.eff 8 false (.eff 9 false (.eff 10 true (.done) <| .no) <| .no) <| .no) <| .no) <| .no) <| .no) <| .no) <| .eff 4 false (.eff 2 false (.eff 5 false (.eff 6 false (.eff 7 false (.eff 8 false (.eff 9 false (.eff 10 true (.done) <| .no) <| .no) <| .no) <| .no) <| .no) <| .no) <| .no) <| .no) <| .eff 4 false (.eff 1 false (.eff 2 false (.eff 5 false (.eff 6 false (.eff 7 false (.eff 8 false (.eff 9 false (.eff 10 true (.done) <| .no) <| .no) <| .no) <| .no) <| .no) <| .no) <| .no) <| .no) <| .no), (31, .take 0 <| .take 2 <| .take 3 <| .take 1 <| .take 4 <| .eff 5 false (.eff 6 false (.eff 7 false (.take 8 <| .eff 9 true (.done) <| .no) <| .no) <| .no) <| .no), (35, .take 0 <| .take 1 <| .take 2 <| .take 3 <| .take 4 <| .eff 5 false (.take 6 <| .take 7 <| .done) <| .no), (36, .take 0 <| .take 2 <| .eff 1 false (.eff 3 true (.take 4 <| .take 5 <| .take 6 <| .take 7 <| .take 8 <| .done) <| .no) <| .no)]
def dr12 : List (Nat × Sched) := [(11, .take 0 <| .take 2 <| .take 5 <| .take 7 <| .take 1 <| .take 3 <| .take 4 <| .take 6 <| .take 8 <| .take 9 <| .eff 10 false (.take 11 <| .done) <| .no), (20, .take 0 <| .take 2 <| .take 6 <| .take 8 <| .take 1 <| .take 3 <| .take 4 <| .take 5 <| .take 7 <| .take 9 <| .take 10 <| .take 11 <| .take 12 <| .take 13 <| .take 14 <| .take 16 <| .take 15 <| .take 17 <| .take 18 <| .take 19 <| .take 20 <| .take 21 <| .take 22 <| .take 24 <| .take 28 <| .take 30 <| .take 23 <| .take 25 <| .take 26 <| .take 27 <| .take 29 <| .take 31 <| .take 32 <| .take 33 <| .eff 34 false (.take 35 <| .take 36 <| .take 37 <| .done) <| .no), (26, .take 0 <| .take 2 <| .take 5 <| .take 7 <| .take 1 <| .take 3 <| .take 4 <| .take 6 <| .take 8 <| .take 9 <| .eff 10 false (.take 11 <| .done) <| .no)]
def dr13 : List (Nat × Sched) := [(6, .take 0 <| .take 1 <| .take 2 <| .take 3 <| .take 5 <| .take 7 <| .take 4 <| .take 6 <| .take 8 <| .take 9 <| .eff 10 false (.eff 11 false (.take 12 <| .take 13 <| .eff 14 true (.done) <| .no) <| .no) <| .no)]
def dr14 : List (Nat × Sched) := [(6, .take 0 <| .take 1 <| .take 2 <| .take 3 <| .take 5 <| .take 7 <| .take 4 <| .take 6 <| .take 8 <| .take 9 <| .eff 10 false (.eff 11 false (.take 12 <| .take 13 <| .eff 14 true (.done) <| .no) <| .no) <| .no), (10, .take 0 <| .take 1 <| .take 2 <| .take 3 <| .take 4 <| .eff 5 false (.take 6 <| .done) <| .no)]
def dr15 : List (Nat × Sched) := [(6, .take 0 <| .take 2 <| .take 5 <| .take 7 <| .take 1 <| .take 3 <| .take 4 <| .take 6 <| .take 8 <| .take 9 <| .eff 10 false (.take 11 <| .done) <| .no)]
def dr16 : List (Nat × Sched) := [(2, .take 3 <| .eff 0 false (.eff 1 false (.eff 2 false (.eff 4 false (.take 5 <| .take 6 <| .take 7 <| .take 8 <| .eff 9 false (.eff 10 true (.take 11 <| .take 12 <| .done) <| .no) <| .no) <| .eff 9 false (.eff 4 true (.take 5 <| .take 6 <| .take 7 <| .take 8 <| .eff 10 true (.take 11 <| .take 12 <| .done) <| .no) <| .no) <| .no) <| .eff 9 false (.eff 2 false (.eff 4 true (.take 5 <| .take 6 <| .take 7 <| .take 8 <| .eff 10 true (.take 11 <| .take 12 <| .done) <| .no) <| .no) <| .no) <| .no) <| .eff 9 false (.eff 1 false (.eff 2 false (.eff 4 true (.take 5 <| .take 6 <| .take 7 <| .take 8 <| .eff 10 true (.take 11 <| .take 12 <| .done) <| .no) <| .no) <| .no) <| .no) <| .no) <| .eff 9 false (.eff 0 false (.eff 1 false (.eff 2 false (.eff 4 true (.take 5 <| .take 6 <| .take 7 <| .take 8 <| .eff 10 true (.take 11 <| .take 12 <| .done) <| .no) <| .no) <| .no) <| .no) <| .no) <| .no)]
def dr17 : List (Nat × Sched) := []
def dr18 : List (Nat × Sched) := []
def dr19 : List (Nat × Sched) := [(3, .take 1 <| .take 0 <| .eff 2 true (.done) <| .no)]
def dr20 : List (Nat × Sched) := [(6, .take 1 <| .take 0 <| .eff 2 false (.eff 3 false (.eff 4 true (.eff 5 true (.done) <| .no) <| .no) <| .no) <| .no), (10, .take 0 <| .take 1 <| .take 2 <| .eff 3 false (.eff 4 true (.done) <| .no) <| .no), (11, .take 0 <| .take 1 <| .eff 2 false (.eff 3 true (.done) <| .no) <| .no)]
def dr21 : List (Nat × Sched) := [(8, .take 0 <| .take 1 <| .take 2 <| .take 3 <| .eff 4 false (.eff 5 false (.eff 6 false (.take 7 <| .eff 8 true (.done) <| .no) <| .no) <| .no) <| .no), (13, .take 0 <| .take 2 <| .take 5 <| .take 1 <| .take 3 <| .take 4 <| .take 6 <| .eff 7 false (.take 8 <| .eff 9 false (.eff 10 false (.take 11 <| .eff 12 true (.done) <| .no) <| .no) <| .no) <| .no), (18, .take 0 <| .take 1 <| .take 2 <| .eff 3 false (.eff 4 false (.eff 5 false (.take 6 <| .eff 7 true (.done) <| .no) <| .no) <| .no) <| .no)]
def dr22 : List (Nat × Sched) := []
def dr23 : List (Nat × Sched) := []
def dr24 : List (Nat × Sched) := [(6, .take 0 <| .take 1 <| .take 2 <| .take 3 <| .take 5 <| .take 6 <| .take 7 <| .take 8 <| .take 4 <| .take 9 <| .take 10 <| .take 11 <| .take 12 <| .take 13 <| .take 14 <| .take 15 <| .take 18 <| .take 19 <| .take 20 <| .take 21 <| .take 16 <| .take 17 <| .take 22 <| .take 23 <| .take 24 <| .take 25 <| .done), (11, .take 0 <| .take 1 <| .take 2 <| .take 3 <| .take 5 <| .take 8 <| .take 9 <| .take 10 <| .take 11 <| .take 13 <| .take 4 <| .take 6 <| .take 7 <| .take 12 <| .take 14 <| .take 15 <| .take 16 <| .done)]
def dr25 : List (Nat × Sched) := []
def dr26 : List (Nat × Sched) := []
def dr27 : List (Nat × Sched) := []
def dr28 : List (Nat × Sched) := [(7, .take 0 <| .take 1 <| .take 2 <| .eff 3 false (.eff 4 false (.eff 5 true (.done) <| .no) <| .no) <| .no)]
def dr29 : List (Nat × Sched) := [(3, .take 0 <| .take 1 <| .take 2 <| .take 3 <| .take 5 <| .eff 4 false (.eff 6 true (.eff 7 true (.done) <| .no) <| .no) <| .no), (29, .take 0 <| .take 2 <| .take 3 <| .take 4 <| .take 5 <| .take 7 <| .take 1 <| .take 6 <| .take 8 <| .take 9 <| .eff 10 false (.eff 11 false (.eff 12 false (.take 13 <| .eff 14 true (.done) <| .no) <| .no) <| .no) <| .no)]
def dr30 : List (Nat × Sched) := [(7, .take 0 <| .take 2 <| .eff 1 false (.eff 3 true (.eff 4 true (.eff 5 true (.done) <| .no) <| .no) <| .no) <| .no)]
def dr31 : List (Nat × Sched) := []
def dr32 : List (Nat × Sched) := [(27, .take 0 <| .take 2 <| .take 3 <| .take 1 <| .take 4 <| .eff 5 false (.eff 6 false (.eff 7 false (.take 8 <| .eff 9 true (.done) <| .no) <| .no) <| .no) <| .no), (34, .take 0 <| .take 2 <| .take 3 <| .take 4 <| .take 1 <| .take 5 <| .eff 6 false (.eff 7 false (.eff 8 false (.take 9 <| .eff 10 true (.done) <| .no) <| .no) <| .no) <| .no)]
def dr33 : List (Nat × Sched) := []
def dr34 : List (Nat × Sched) := [(22, .take 0 <| .take 1 <| .take 2 <| .take 3 <| .take 4 <| .take 5 <| .eff 6 false (.eff 7 false (.take 8 <| .take 9 <| .eff 10 true (.done) <| .no) <| .no) <| .no), (23, .take 0 <| .take 1 <| .take 2 <| .take 5 <| .take 6 <| .take 7 <| .take 3 <| .take 4 <| .take 8 <| .take 9 <| .take 10 <| .take 11 <| .take 12 <| .eff 13 true (.done) <| .no), (25, .take 0 <| .take 1 <| .take 2 <| .take 3 <| .take 4 <| .eff 5 true (.take 6 <| .eff 7 true (.done) <| .no) <| .no), (12, .take 0 <| .take 2 <| .take 3 <| .take 1 <| .take 4 <| .eff 5 false (.eff 6 false (.eff 7 false (.take 8 <| .eff 9 true (.done) <| .no) <| .no) <| .no) <| .no)]
def dr35 : List (Nat × Sched) := []
def dr36 : List (Nat × Sched) := [(7, .take 0 <| .take 1 <| .take 2 <| .eff 3 false (.eff 4 true (.done) <| .no) <| .no)]
def dr37 : List (Nat × Sched) := [(13, .take 4 <| .take 0 <| .take 1 <| .take 2 <| .take 3 <| .take 5 <| .take 6 <| .take 7 <| .take 8 <| .eff 9 false (.take 10 <| .eff 11 true (.done) <| .no) <| .no)]
def dr38 : List (Nat × Sched) := []
def dr39 : List (Nat × Sched) := []
def dr40 : List (Nat × Sched) := [(20, .take 0 <| .take 1 <| .take 2 <| .take 3 <| .take 4 <| .take 5 <| .take 6 <| .take 7 <| .take 8 <| .take 10 <| .take 11 <| .take 12 <| .take 9 <| .take 13 <| .take 14 <| .take 15 <| .take 16 <| .done), (22, .take 0 <| .take 1 <| .take 2 <| .take 4 <| .take 5 <| .take 6 <| .take 3 <| .take 7 <| .take 8 <| .take 9 <| .take 10 <| .take 11 <| .done), (24, .take 0 <| .take 1 <| .take 3 <| .take 4 <| .take 6 <| .take 7 <| .take 8 <| .take 2 <| .take 5 <| .take 9 <| .eff 10 false (.take 11 <| .take 12 <| .done) <| .no), (26, .take 0 <| .take 1 <| .take 3 <| .take 4 <| .take 5 <| .take 2 <| .take 6 <| .eff 7 true (.take 8 <| .take 9 <| .take 10 <| .take 11 <| .done) <| .no), (29, .take 0 <| .take 1 <| .take 3 <| .take 4 <| .take 2 <| .take 5 <| .eff 6 true (.take 7 <| .take 8 <| .take 9 <| .take 10 <| .done) <| .no), (36, .take 0 <| .take 1 <| .take 3 <| .take 4 <| .take 2 <| .take 5 <| .eff 6 false (.eff 7 false (.take 8 <| .done) <| .no) <| .no), (40, .take 0 <| .take 1 <| .take 3 <| .take 4 <| .take 5 <| .take 6 <| .take 2 <| .take 7 <| .eff 8 false (.take 9 <| .take 10 <| .done) <| .no)]
def dr42 : List (Nat × Sched) := []
def dr43 : List (Nat × Sched) := [(8, .take 0 <| .take 1 <| .take 4 <| .take 2 <| .take 5 <| .take 6 <| .effN 3 false (.take 7 <| .take 8 <| .eff 9 false (.eff 10 false (.done) <| .no) <| .no) <| .no)]
def dr46 : List (Nat × Sched) := [(7, .take 0 <| .take 1 <| .eff 2 false (.eff 3 true (.done) <| .no) <| .no)]
def dr47 : List (Nat × Sched) := []
def dr48 : List (Nat × Sched) := []
def dr49 : List (Nat × Sched) := []
def dr50 : List (Nat × Sched) := []
def dr51 : List (Nat × Sched) := []
def dr52 : List (Nat × Sched) := []
def dr53 : List (Nat × Sched) := []
def dr54 : List (Nat × Sched) := []
def dr55 : List (Nat × Sched) := []
def dr56 : List (Nat × Sched) := []
def dr57 : List (Nat × Sched) := []
def dr58 : List (Nat × Sched) := []
def dr59 : List (Nat × Sched) := []
def dr60 : List (Nat × Sched) := []
def dr61 : List (Nat × Sched) := [(19, .take 0 <| .take 1 <| .take 2 <| .take 3 <| .take 5 <| .take 6 <| .take 4 <| .take 7 <| .take 8 <| .eff 9 false (.eff 10 false (.take 11 <| .take 12 <| .eff 13 true (.done) <| .no) <| .no) <| .no), (24, .take 0 <| .take 1 <| .take 2 <| .take 3 <| .take 4 <| .take 6 <| .take 7 <| .eff 5 false (.eff 8 true (.take 9 <| .eff 10 true (.done) <| .no) <| .no) <| .eff 8 false (.eff 5 false (.take 9 <| .eff 10 true (.done) <| .no) <| .no) <| .no)]
def dr62 : List (Nat × Sched) := []
def dr63 : List (Nat × Sched) := []
def dr64 : List (Nat × Sched) := []
def dr65 : List (Nat × Sched) := []
def dr66 : List (Nat × Sched) := []
def dr67 : List (Nat × Sched) := []
def dr68 : List (Nat × Sched) := []
def dr69 : List (Nat × Sched) := [(28, .take 1 <| .take 2 <| .take 5 <| .take 6 <| .eff 0 false (.take 3 <| .take 4 <| .eff 7 false (.eff 8 false (.eff 9 true (.done) <| .no) <| .no) <| .no) <| .eff 7 false (.eff 0 false (.take 3 <| .take 4 <| .eff 8 false (.eff 9 true (.done) <| .no) <| .no) <| .no) <| .no)]
def dr70 : List (Nat × Sched) := []
def dr71 : List (Nat × Sched) := []
def dr73 : List (Nat × Sched) := [(1, .take 0 <| .take 2 <| .take 1 <| .take 3 <| .take 4 <| .take 5 <| .take 6 <| .take 9 <| .take 7 <| .take 8 <| .take 10 <| .take 11 <| .take 12 <| .take 13 <| .take 14 <| .take 15 <| .take 16 <| .take 17 <| .take 18 <| .take 19 <| .take 22 <| .take 20 <| .take 23 <| .eff 21 false (.eff 24 false (.take 25 <| .take 26 <| .take 27 <| .take 28 <| .take 29 <| .take 30 <| .take 31 <| .take 32 <| .take 33 <| .take 35 <| .take 34 <| .take 36 <| .take 37 <| .take 38 <| .take 39 <| .take 41 <| .take 40 <| .take 42 <| .take 43 <| .take 44 <| .take 45 <| .take 46 <| .done) <| .no) <| .no), (6, .take 0 <| .take 2 <| .take 5 <| .take 7 <| .take 1 <| .take 3 <| .take 4 <| .take 6 <| .take 8 <| .take 9 <| .eff 10 false (.take 11 <| .done) <| .no)]
def dr74 : List (Nat × Sched) := []
def dr75 : List (Nat × Sched) := [(23, .take 0 <| .take 1 <| .take 2 <| .take 3 <| .take 4 <| .take 6 <| .take 7 <| .take 8 <| .take 5 <| .take 9 <| .take 10 <| .take 11 <| .take 12 <| .done), (25, .take 0 <| .take 1 <| .take 2 <| .take 4 <| .take 3 <| .take 5 <| .take 6 <| .take 7 <| .take 8 <| .take 9 <| .done)]
def dr76 : List (Nat × Sched) := []
def dr77 : List (Nat × Sched) := []
def dr78 : List (Nat × Sched) := [(1, .take 0 <| .take 1 <| .take 2 <| .take 4 <| .take 5 <| .take 6 <| .take 3 <| .take 7 <| .take 8 <| .done), (5, .take 0 <| .take 1 <| .take 2 <| .take 5 <| .take 6 <| .take 7 <| .take 3 <| .take 8 <| .eff 4 false (.eff 9 false (.take 10 <| .take 11 <| .done) <| .no) <| .no), (7, .take 0 <| .take 1 <| .take 2 <| .take 4 <| .take 5 <| .take 6 <| .take 3 <| .take 7 <| .take 8 <| .take 9 <| .take 10 <| .take 11 <| .take 12 <| .take 14 <| .take 15 <| .take 16 <| .take 13 <| .take 17 <| .take 18 <| .take 19 <| .take 20 <| .done), (8, .take 0 <| .take 1 <| .take 2 <| .take 4 <| .take 5 <| .take 6 <| .take 3 <| .take 7 <| .eff 8 true (.take 9 <| .done) <| .no)]
def dr79 : List (Nat × Sched) := [(5, .take 0 <| .take 1 <| .take 2 <| .take 4 <| .take 5 <| .take 6 <| .take 3 <| .take 7 <| .take 8 <| .eff 9 false (.take 10 <| .eff 11 true (.done) <| .no) <| .no), (6, .take 0 <| .take 1 <| .take 2 <| .take 4 <| .take 5 <| .take 6 <| .take 3 <| .take 7 <| .take 8 <| .take 9 <| .take 10 <| .eff 11 false (.eff 12 false (.take 13 <| .eff 14 true (.done) <| .no) <| .no) <| .no), (7, .take 0 <| .take 1 <| .take 2 <| .take 5 <| .take 6 <| .take 7 <| .take 3 <| .take 4 <| .take 8 <| .take 9 <| .take 10 <| .take 11 <| .take 12 <| .take 13 <| .take 14 <| .eff 15 true (.done) <| .no)]
def dr80 : List (Nat × Sched) := [(5, .take 0 <| .take 2 <| .take 3 <| .take 4 <| .take 1 <| .take 5 <| .take 6 <| .take 7 <| .take 8 <| .take 9 <| .take 10 <| .take 11 <| .take 12 <| .take 13 <| .take 14 <| .take 16 <| .take 17 <| .take 18 <| .take 15 <| .take 19 <| .take 20 <| .take 21 <| .take 22 <| .done)]
def dr81 : List (Nat × Sched) := []
def dr82 : List (Nat × Sched) := []
def dr83 : List (Nat × Sched) := []
def dr84 : List (Nat × Sched) := []
def dr85 : List (Nat × Sched) := [(1, .take 0 <| .take 1 <| .take 2 <| .take 3 <| .take 4 <| .take 5 <| .take 6 <| .take 7 <| .take 8 <| .take 11 <| .take 12 <| .take 13 <| .take 9 <| .take 10 <| .take 14 <| .take 15 <| .take 16 <| .take 17 <| .take 18 <| .done)]
def dr87 : List (Nat × Sched) := []
def dr88 : List (Nat × Sched) := []
def dr89 : List (Nat × Sched) := []
def dr90 : List (Nat × Sched) := []
def dr91 : List (Nat × Sched) := []
def dr93 : List (Nat × Sched) := []
def dr94 : List (Nat × Sched) := []
def dr95 : List (Nat × Sched) := []
def dr96 : List (Nat × Sched) := [(7, .take 0 <| .take 2 <| .take 5 <| .take 7 <| .take 1 <| .take 6 <| .eff 3 false (.eff 4 false (.take 11 <| .eff 8 false (.eff 9 false (.eff 10 false (.eff 12 true (.take 13 <| .eff 14 true (.done) <| .no) <| .no) <| .no) <| .no) <| .no) <| .no) <| .no)]
def dr97 : List (Nat × Sched) := []
def dr98 : List (Nat × Sched) := []
def dr99 : List (Nat × Sched) := []
def dr100 : List (Nat × Sched) := []
def dr101 : List (Nat × Sched) := []
def dr102 : List (Nat × Sched) := []
def dr103 : List (Nat × Sched) := []
def dr104 : List (Nat × Sched) := [(3, .take 0 <| .take 1 <| .take 3 <| .take 4 <| .take 5 <| .take 7 <| .take 8 <| .take 2 <| .take 6 <| .take 9 <| .eff 10 true (.take 11 <| .take 12 <| .take 13 <| .take 14 <| .done) <| .no), (5, .take 0 <| .take 1 <| .take 3 <| .take 4 <| .take 5 <| .take 7 <| .take 8 <| .take 2 <| .take 6 <| .take 9 <| .eff 10 true (.take 11 <| .take 12 <| .take 13 <| .take 14 <| .done) <| .no), (7, .take 0 <| .take 1 <| .take 3 <| .take 4 <| .take 6 <| .take 7 <| .take 8 <| .take 10 <| .take 11 <| .take 13 <| .take 14 <| .take 2 <| .take 5 <| .take 9 <| .take 12 <| .take 15 <| .eff 16 true (.take 17 <| .take 18 <| .take 19 <| .take 20 <| .done) <| .no), (9, .take 0 <| .take 1 <| .take 3 <| .take 4 <| .take 6 <| .take 7 <| .take 8 <| .take 10 <| .take 11 <| .take 13 <| .take 14 <| .take 2 <| .take 5 <| .take 9 <| .take 12 <| .take 15 <| .eff 16 true (.take 17 <| .take 18 <| .take 19 <| .take 20 <| .done) <| .no), (11, .take 0 <| .take 1 <| .take 3 <| .take 4 <| .take 6 <| .take 7 <| .take 8 <| .take 10 <| .take 11 <| .take 13 <| .take 14 <| .take 2 <| .take 5 <| .take 9 <| .take 12 <| .take 15 <| .eff 16 true (.take 17 <| .take 18 <| .take 19 <| .take 20 <| .done) <| .no), (13, .take 0 <| .take 1 <| .take 3 <| .take 4 <| .take 6 <| .take 7 <| .take 8 <| .take 10 <| .take 11 <| .take 13 <| .take 14 <| .take 2 <| .take 5 <| .take 9 <| .take 12 <| .take 15 <| .eff 16 true (.take 17 <| .take 18 <| .take 19 <| .take 20 <| .done) <| .no), (15, .take 0 <| .take 1 <| .take 3 <| .take 4 <| .take 2 <| .take 5 <| .eff 6 true (.take 7 <| .take 8 <| .take 9 <| .take 10 <| .done) <| .no), (17, .take 0 <| .take 1 <| .take 3 <| .take 4 <| .take 2 <| .take 5 <| .eff 6 true (.take 7 <| .take 8 <| .take 9 <| .take 10 <| .done) <| .no), (23, .take 0 <| .take 1 <| .take 3 <| .take 4 <| .take 5 <| .take 7 <| .take 8 <| .take 9 <| .take 11 <| .take 12 <| .take 2 <| .take 6 <| .take 10 <| .take 13 <| .eff 14 true (.take 15 <| .take 16 <| .take 17 <| .take 18 <| .done) <| .no), (24, .take 0 <| .take 1 <| .take 3 <| .take 4 <| .take 5 <| .take 7 <| .take 8 <| .take 9 <| .take 11 <| .take 12 <| .take 2 <| .take 6 <| .take 10 <| .take 13 <| .eff 14 true (.take 15 <| .take 16 <| .take 17 <| .take 18 <| .done) <| .no)]
def dr105 : List (Nat × Sched) := [(6, .take 0 <| .take 2 <| .take 1 <| .take 3 <| .eff 4 false (.take 5 <| .done) <| .no), (8, .take 0 <| .take 1 <| .take 2 <| .take 3 <| .eff 4 false (.take 5 <| .done) <| .no)]
def dr107 : List (Nat × Sched) := []
def dr108 : List (Nat × Sched) := []
def dr109 : List (Nat × Sched) := []
def dr110 : List (Nat × Sched) := []
def dr111 : List (Nat × Sched) := [(6, .take 0 <| .take 2 <| .take 1 <| .take 3 <| .eff 4 false (.take 5 <| .take 6 <| .done) <| .no), (8, .take 0 <| .take 1 <| .take 2 <| .take 3 <| .eff 4 false (.take 5 <| .take 6 <| .done) <| .no)]
def dr113 : List (Nat × Sched) := []
def dr114 : List (Nat × Sched) := []
def dr115 : List (Nat × Sched) := []
def dr116 : List (Nat × Sched) := []
def dr117 : List (Nat × Sched) := [(9, .take 0 <| .take 1 <| .take 2 <| .take 3 <| .take 4 <| .take 5 <| .take 6 <| .take 7 <| .take 8 <| .take 10 <| .take 11 <| .take 12 <| .take 9 <| .take 13 <| .take 14 <| .take 15 <| .done)]
def dr118 : List (Nat × Sched) := []
def dr119 : List (Nat × Sched) := []
def dr120 : List (Nat × Sched) := []
def dr121 : List (Nat × Sched) := []
def dr122 : List (Nat × Sched) := []
def dr123 : List (Nat × Sched) := []
def dr125 : List (Nat × Sched) := [(1, .take 0 <| .take 1 <| .take 2 <| .take 3 <| .take 4 <| .take 5 <| .take 6 <| .take 7 <| .take 8 <| .take 9 <| .take 10 <| .take 11 <| .take 12 <| .take 13 <| .take 14 <| .take 15 <| .take 16 <| .take 17 <| .take 20 <| .take 21 <| .take 22 <| .take 18 <| .take 19 <| .take 23 <| .take 24 <| .take 25 <| .take 26 <| .take 27 <| .take 28 <| .take 29 <| .take 30 <| .take 31 <| .take 32 <| .take 33 <| .take 34 <| .take 35 <| .take 36 <| .take 37 <| .take 38 <| .take 39 <| .take 40 <| .take 41 <| .take 42 <| .take 43 <| .take 44 <| .take 45 <| .take 46 <| .take 47 <| .take 48 <| .take 49 <| .take 50 <| .done)]
def dr126 : List (Nat × Sched) := []
def dr127 : List (Nat × Sched) := []
def dr128 : List (Nat × Sched) := []
def dr131 : List (Nat × Sched) := []
def dr132 : List (Nat × Sched) := []
def dr136 : List (Nat × Sched) := [(11, .take 0 <| .take 1 <| .take 2 <| .take 4 <| .take 7 <| .take 3 <| .take 5 <| .take 6 <| .take 8 <| .done)]
def dr138 : List (Nat × Sched) := []
def dr139 : List (Nat × Sched) := []
def dr140 : List (Nat × Sched) := []
def dr141 : List (Nat × Sched) := []
def dr143 : List (Nat × Sched) := []
def dr144 : List (Nat × Sched) := []
def dr145 : List (Nat × Sched) := [(13, .take 0 <| .take 2 <| .take 3 <| .take 1 <| .eff 4 false (.eff 5 false (.eff 6 true (.take 7 <| .eff 8 true (.done) <| .no) <| .no) <| .no) <| .no)]
def dr146 : List (Nat × Sched) := []
def dr147 : List (Nat × Sched) := []
def dr148 : List (Nat × Sched) := []
def dr149 : List (Nat × Sched) := []
def dr150 : List (Nat × Sched) := []
def dr151 : List (Nat × Sched) := []
def dr152 : List (Nat × Sched) := []
def dr153 : List (Nat × Sched) := [(20, .take 0 <| .take 1 <| .take 2 <| .take 3 <| .take 5 <| .take 8 <| .take 9 <| .take 10 <| .take 4 <| .take 6 <| .take 7 <| .eff 11 false (.eff 12 false (.eff 13 true (.done) <| .no) <| .no) <| .no)]
def dr154 : List (Nat × Sched) := [(11, .take 0 <| .take 1 <| .take 2 <| .take 3 <| .take 4 <| .take 5 <| .take 6 <| .take 7 <| .take 9 <| .take 8 <| .take 10 <| .eff 11 true (.take 12 <| .take 13 <| .take 14 <| .done) <| .no)]
def dr155 : List (Nat × Sched) := [(9, .take 0 <| .take 1 <| .take 2 <| .take 3 <| .take 4 <| .take 6 <| .take 7 <| .take 8 <| .take 5 <| .take 9 <| .take 10 <| .take 11 <| .done)]
def dr156 : List (Nat × Sched) := []
def dr157 : List (Nat × Sched) := [(5, .take 0 <| .take 1 <| .take 2 <| .take 5 <| .take 3 <| .take 6 <| .eff 4 false (.take 7 <| .take 8 <| .eff 9 true (.done) <| .no) <| .no), (13, .take 0 <| .take 1 <| .take 2 <| .take 3 <| .take 4 <| .take 5 <| .take 6 <| .take 7 <| .take 8 <| .take 10 <| .take 9 <| .take 11 <| .eff 12 true (.take 13 <| .take 14 <| .done) <| .no), (15, .take 0 <| .take 2 <| .take 3 <| .take 4 <| .take 5 <| .take 1 <| .take 6 <| .take 7 <| .take 8 <| .eff 9 true (.done) <| .no)]
def dr158 : List (Nat × Sched) := []
def dr159 : List (Nat × Sched) := [(11, .take 0 <| .take 1 <| .take 2 <| .take 5 <| .take 3 <| .take 6 <| .eff 4 false (.take 7 <| .eff 8 false (.eff 9 false (.take 10 <| .done) <| .no) <| .no) <| .no)]
def dr160 : List (Nat × Sched) := []
def dr161 : List (Nat × Sched) := []
def dr162 : List (Nat × Sched) := []
def dr163 : List (Nat × Sched) := []
def dr164 : List (Nat × Sched) := []
def dr165 : List (Nat × Sched) := []
def dr166 : List (Nat × Sched) := []
def dr167 : List (Nat × Sched) := []
def dr168 : List (Nat × Sched) := []
def dr169 : List (Nat × Sched) := []
def dr172 : List (Nat × Sched) := []
def dr173 : List (Nat × Sched) := []
def dr174 : List (Nat × Sched) := [(19, .take 0 <| .take 1 <| .take 2 <| .take 3 <| .take 5 <| .take 6 <| .take 7 <| .take 4 <| .take 8 <| .eff 9 false (.take 10 <| .take 11 <| .done) <| .no), (21, .take 0 <| .take 1 <| .take 2 <| .take 3 <| .take 4 <| .take 5 <| .take 6 <| .take 7 <| .take 8 <| .take 10 <| .take 11 <| .take 12 <| .take 9 <| .take 13 <| .take 14 <| .take 15 <| .take 16 <| .done), (23, .take 0 <| .take 1 <| .take 2 <| .take 4 <| .take 5 <| .take 6 <| .take 3 <| .take 7 <| .take 8 <| .take 9 <| .take 10 <| .take 11 <| .done)]
def dr175 : List (Nat × Sched) := []
def dr176 : List (Nat × Sched) := []
def dr180 : List (Nat × Sched) := []
def dr183 : List (Nat × Sched) := []
def dr184 : List (Nat × Sched) := []
def dr185 : List (Nat × Sched) := []
def dr186 : List (Nat × Sched) := []
def dr187 : List (Nat × Sched) := []
def dr189 : List (Nat × Sched) := []
def dr190 : List (Nat × Sched) := [(12, .take 0 <| .take 2 <| .take 1 <| .eff 3 false (.eff 4 false (.eff 5 true (.take 6 <| .eff 7 true (.done) <| .no) <| .no) <| .no) <| .no), (14, .take 0 <| .take 2 <| .take 1 <| .eff 3 false (.eff 4 false (.eff 5 true (.take 6 <| .eff 7 true (.done) <| .no) <| .no) <| .no) <| .no)]
def dr191 : List (Nat × Sched) := []
def dr193 : List (Nat × Sched) := []
def dr194 : List (Nat × Sched) := []
def dr195 : List (Nat × Sched) := []
def dr196 : List (Nat × Sched) := [(6, .take 1 <| .take 2 <| .take 3 <| .take 0 <| .take 4 <| .eff 5 true (.take 6 <| .done) <| .no)]
def dr197 : List (Nat × Sched) := []
def dr198 : List (Nat × Sched) := []
def dr199 : List (Nat × Sched) := []
def dr200 : List (Nat × Sched) := []
def dr201 : List (Nat × Sched) := []
def dr202 : List (Nat × Sched) := []
def dr203 : List (Nat × Sched) := []
def dr204 : List (Nat × Sched) := []
def dr205 : List (Nat × Sched) := [(6, .take 0 <| .take 1 <| .take 2 <| .take 3 <| .take 4 <| .take 5 <| .take 6 <| .done), (8, .take 0 <| .take 1 <| .take 2 <| .take 3 <| .take 4 <| .take 5 <| .take 6 <| .eff 7 false (.eff 8 true (.done) <| .no) <| .no), (18, .take 8 <| .take 10 <| .take 1 <| .take 2 <| .take 3 <| .take 4 <| .take 5 <| .eff 0 false (.take 6 <| .take 7 <| .eff 9 false (.eff 11 false (.eff 12 false (.eff 13 true (.done) <| .no) <| .no) <| .no) <| .no) <| .eff 9 false (.eff 0 false (.take 6 <| .take 7 <| .eff 11 false (.eff 12 false (.eff 13 true (.done) <| .no) <| .no) <| .no) <| .eff 11 false (.eff 0 false (.take 6 <| .take 7 <| .eff 12 false (.eff 13 true (.done) <| .no) <| .no) <| .no) <| .no) <| .no), (32, .take 4 <| .take 6 <| .take 0 <| .take 1 <| .take 2 <| .take 3 <| .eff 5 false (.eff 7 false (.eff 8 false (.eff 9 true (.done) <| .no) <| .no) <| .no) <| .no)]
def dr206 : List (Nat × Sched) := []
def dr207 : List (Nat × Sched) := [(3, .take 0 <| .take 1 <| .take 6 <| .take 7 <| .take 9 <| .take 10 <| .take 4 <| .eff 2 false (.eff 3 false (.eff 5 false (.eff 8 false (.eff 11 false (.eff 12 false (.eff 13 false (.take 14 <| .done) <| .no) <| .no) <| .no) <| .no) <| .no) <| .no) <| .no)]
def dr208 : List (Nat × Sched) := []
def dr209 : List (Nat × Sched) := []
def dr210 : List (Nat × Sched) := []
def dr211 : List (Nat × Sched) := []
def dr212 : List (Nat × Sched) := []
def dr213 : List (Nat × Sched) := []
def dr214 : List (Nat × Sched) := []
def dr215 : List (Nat × Sched) := []
def dr216 : List (Nat × Sched) := []
def dr217 : List (Nat × Sched) := []
def dr218 : List (Nat × Sched) := [(6, .take 0 <| .take 1 <| .take 2 <| .take 3 <| .take 5 <| .eff 4 false (.eff 6 false (.take 7 <| .eff 8 false (.eff 9 false (.take 10 <| .done) <| .no) <| .no) <| .no) <| .eff 6 false (.eff 4 false (.take 7 <| .eff 8 false (.eff 9 false (.take 10 <| .done) <| .no) <| .no) <| .no) <| .no), (14, .take 0 <| .take 1 <| .take 2 <| .take 3 <| .take 4 <| .take 5 <| .take 6 <| .take 8 <| .take 7 <| .take 9 <| .eff 10 true (.take 11 <| .take 12 <| .done) <| .no), (15, .take 0 <| .take 1 <| .take 2 <| .take 3 <| .take 4 <| .take 5 <| .take 7 <| .take 6 <| .take 8 <| .eff 9 true (.take 10 <| .take 11 <| .eff 12 true (.done) <| .no) <| .no), (28, .take 0 <| .take 1 <| .take 2 <| .take 3 <| .take 4 <| .take 5 <| .eff 6 false (.eff 7 false (.eff 8 false (.take 9 <| .done) <| .no) <| .no) <| .no)]
def dr219 : List (Nat × Sched) := [(1, .take 1 <| .take 5 <| .take 0 <| .take 2 <| .take 4 <| .take 6 <| .eff 3 false (.eff 7 false (.eff 8 false (.take 9 <| .done) <| .no) <| .no) <| .no)]
def dr224 : List (Nat × Sched) := [(28, .take 0 <| .take 1 <| .take 2 <| .take 3 <| .take 4 <| .take 6 <| .take 7 <| .take 8 <| .take 5 <| .take 9 <| .take 10 <| .take 11 <| .take 12 <| .done), (30, .take 0 <| .take 1 <| .take 2 <| .take 4 <| .take 3 <| .take 5 <| .take 6 <| .take 7 <| .eff 8 false (.take 9 <| .done) <| .no), (46, .take 0 <| .take 1 <| .take 3 <| .take 4 <| .take 2 <| .take 5 <| .eff 6 true (.take 7 <| .done) <| .no), (49, .take 0 <| .take 1 <| .take 3 <| .take 4 <| .take 2 <| .take 5 <| .eff 6 true (.take 7 <| .done) <| .no), (21, .take 0 <| .take 1 <| .take 3 <| .take 4 <| .take 2 <| .take 5 <| .eff 6 true (.take 7 <| .take 8 <| .done) <| .no)]
def dr225 : List (Nat × Sched) := []
def dr226 : List (Nat × Sched) := []
def dr227 : List (Nat × Sched) := [(6, .take 0 <| .take 1 <| .take 3 <| .take 4 <| .take 2 <| .take 5 <| .eff 6 true (.take 7 <| .take 8 <| .take 9 <| .take 10 <| .done) <| .no), (12, .take 0 <| .take 1 <| .take 3 <| .take 4 <| .take 2 <| .take 5 <| .eff 6 true (.take 7 <| .take 8 <| .take 9 <| .take 10 <| .take 11 <| .done) <| .no), (2, .take 0 <| .take 1 <| .take 3 <| .take 4 <| .take 2 <| .take 5 <| .eff 6 true (.take 7 <| .take 8 <| .take 9 <| .take 10 <| .take 11 <| .done) <| .no)]
def dr228 : List (Nat × Sched) := []
def dr229 : List (Nat × Sched) := [(1, .take 0 <| .take 1 <| .take 2 <| .take 3 <| .take 4 <| .take 5 <| .take 6 <| .take 7 <| .eff 8 false (.take 9 <| .done) <| .no)]
def dr230 : List (Nat × Sched) := [(1, .take 0 <| .take 1 <| .take 2 <| .take 3 <| .take 4 <| .take 5 <| .take 6 <| .take 7 <| .eff 8 false (.take 9 <| .done) <| .no)]
def dr231 : List (Nat × Sched) := []
def dr232 : List (Nat × Sched) := []
def dr233 : List (Nat × Sched) := []
def dr242 : List (Nat × Sched) := [(1, .take 0 <| .take 2 <| .eff 1 false (.eff 3 false (.eff 4 false (.eff 5 true (.done) <| .no) <| .no) <| .no) <| .no), (2, .take 0 <| .take 2 <| .take 5 <| .take 7 <| .take 10 <| .take 12 <| .take 1 <| .take 3 <| .take 6 <| .take 8 <| .take 11 <| .take 13 <| .eff 4 false (.eff 9 false (.eff 14 false (.eff 15 false (.eff 16 false (.take 17 <| .done) <| .no) <| .no) <| .no) <| .no) <| .no)]
def dr244 : List (Nat × Sched) := []
def dr245 : List (Nat × Sched) := []
def dr246 : List (Nat × Sched) := []
def dr247 : List (Nat × Sched) := [(1, .take 4 <| .take 0 <| .take 1 <| .take 2 <| .take 3 <| .take 5 <| .take 6 <| .eff 7 false (.eff 8 true (.done) <| .no) <| .no)]
def dr248 : List (Nat × Sched) := []
def dr249 : List (Nat × Sched) := [(1, .take 0 <| .take 2 <| .eff 1 false (.eff 3 false (.eff 4 false (.eff 5 false (.eff 6 true (.done) <| .no) <| .no) <| .no) <| .no) <| .no)]
def dr250 : List (Nat × Sched) := [(1, .take 0 <| .take 2 <| .eff 1 false (.eff 3 false (.eff 4 false (.eff 5 false (.eff 6 true (.done) <| .no) <| .no) <| .no) <| .no) <| .no)]
def dr251 : List (Nat × Sched) := [(3, .take 0 <| .take 2 <| .take 1 <| .take 4 <| .take 3 <| .take 5 <| .done)]
def dr252 : List (Nat × Sched) := []
def dr253 : List (Nat × Sched) := []
def dr254 : List (Nat × Sched) := []
def dr255 : List (Nat × Sched) := []
def dr256 : List (Nat × Sched) := [(0, .take 1 <| .take 3 <| .take 8 <| .take 0 <| .take 2 <| .take 4 <| .take 5 <| .take 6 <| .take 7 <| .take 9 <| .take 10 <| .take 11 <| .take 12 <| .take 13 <| .eff 14 false (.eff 15 false (.eff 16 true (.done) <| .no) <| .no) <| .no)]
def dr257 : List (Nat × Sched) := []
def dr258 : List (Nat × Sched) := []
def dr259 : List (Nat × Sched) := []
def dr260 : List (Nat × Sched) := []
def dr261 : List (Nat × Sched) := []
def dr262 : List (Nat × Sched) := []
def dr263 : List (Nat × Sched) := [(10, .take 0 <| .take 1 <| .take 2 <| .take 3 <| .take 4 <| .eff 5 false (.eff 6 false (.eff 7 true (.done) <| .no) <| .no) <| .eff 6 false (.eff 5 true (.eff 7 true (.done) <| .no) <| .no) <| .no)]
def dr269 : List (Nat × Sched) := []
def dr270 : List (Nat × Sched) := []
def dr271 : List (Nat × Sched) := []
def dr272 : List (Nat × Sched) := []
def dr273 : List (Nat × Sched) := []
def dr274 : List (Nat × Sched) := []
def dr291 : List (Nat × Sched) := [(4, .take 0 <| .take 1 <| .take 2 <| .take 3 <| .take 4 <| .take 5 <| .take 6 <| .take 7 <| .take 9 <| .take 10 <| .take 11 <| .take 12 <| .take 8 <| .take 13 <| .eff 14 true (.take 15 <| .take 16 <| .done) <| .no), (6, .take 0 <| .take 1 <| .take 2 <| .take 3 <| .take 4 <| .take 5 <| .take 6 <| .take 7 <| .take 8 <| .take 10 <| .take 11 <| .take 12 <| .take 9 <| .take 13 <| .take 14 <| .eff 15 true (.take 16 <| .eff 17 true (.done) <| .no) <| .no)]
def dr292 : List (Nat × Sched) := [(5, .take 0 <| .take 1 <| .take 2 <| .take 3 <| .take 5 <| .take 6 <| .take 7 <| .take 4 <| .take 8 <| .eff 9 true (.take 10 <| .done) <| .no), (11, .take 0 <| .take 1 <| .take 2 <| .take 3 <| .take 4 <| .take 5 <| .take 6 <| .take 7 <| .take 8 <| .take 10 <| .take 11 <| .take 12 <| .take 9 <| .take 13 <| .take 14 <| .eff 15 true (.take 16 <| .eff 17 true (.done) <| .no) <| .no), (17, .take 0 <| .take 1 <| .take 2 <| .take 3 <| .take 5 <| .take 6 <| .take 7 <| .take 4 <| .take 8 <| .eff 9 true (.take 10 <| .take 11 <| .done) <| .no), (23, .take 0 <| .take 1 <| .take 2 <| .take 3 <| .take 4 <| .take 5 <| .take 6 <| .take 7 <| .take 8 <| .take 10 <| .take 11 <| .take 12 <| .take 9 <| .take 13 <| .take 14 <| .eff 15 true (.take 16 <| .eff 17 true (.done) <| .no) <| .no), (35, .take 0 <| .take 1 <| .take 2 <| .take 3 <| .take 4 <| .take 5 <| .take 7 <| .take 8 <| .take 9 <| .take 6 <| .take 10 <| .eff 11 true (.take 12 <| .take 13 <| .done) <| .no)]
def dr293 : List (Nat × Sched) := []
def dr294 : List (Nat × Sched) := []
def dr295 : List (Nat × Sched) := []
def dr296 : List (Nat × Sched) := []
def dr297 : List (Nat × Sched) := []
def dr298 : List (Nat × Sched) := []
def dr299 : List (Nat × Sched) := []
def dr300 : List (Nat × Sched) := [(1, .take 0 <| .take 1 <| .take 2 <| .take 4 <| .take 5 <| .take 6 <| .take 10 <| .take 11 <| .take 12 <| .take 3 <| .take 7 <| .take 8 <| .take 9 <| .take 15 <| .take 13 <| .take 14 <| .take 16 <| .done)]
def dr314 : List (Nat × Sched) := []
def dr315 : List (Nat × Sched) := []
def dr316 : List (Nat × Sched) := []
def dr317 : List (Nat × Sched) := [(4, .take 0 <| .take 1 <| .take 2 <| .take 3 <| .take 4 <| .take 5 <| .take 6 <| .take 7 <| .take 9 <| .take 10 <| .take 11 <| .take 12 <| .take 8 <| .take 13 <| .eff 14 true (.take 15 <| .take 16 <| .done) <| .no), (6, .take 0 <| .take 1 <| .take 2 <| .take 3 <| .take 4 <| .take 5 <| .take 6 <| .take 7 <| .take 8 <| .take 10 <| .take 11 <| .take 12 <| .take 9 <| .take 13 <| .take 14 <| .eff 15 true (.take 16 <| .eff 17 true (.done) <| .no) <| .no)]
def dr318 : List (Nat × Sched) := [(5, .take 0 <| .take 1 <| .take 2 <| .take 3 <| .take 5 <| .take 6 <| .take 7 <| .take 4 <| .take 8 <| .eff 9 true (.take 10 <| .done) <| .no), (11, .take 0 <| .take 1 <| .take 2 <| .take 3 <| .take 4 <| .take 5 <| .take 6 <| .take 7 <| .take 8 <| .take 10 <| .take 11 <| .take 12 <| .take 9 <| .take 13 <| .take 14 <| .eff 15 true (.take 16 <| .eff 17 true (.done) <| .no) <| .no), (17, .take 0 <| .take 1 <| .take 2 <| .take 3 <| .take 5 <| .take 6 <| .take 7 <| .take 4 <| .take 8 <| .eff 9 true (.take 10 <| .take 11 <| .done) <| .no), (23, .take 0 <| .take 1 <| .take 2 <| .take 3 <| .take 4 <| .take 5 <| .take 6 <| .take 7 <| .take 8 <| .take 10 <| .take 11 <| .take 12 <| .take 9 <| .take 13 <| .take 14 <| .eff 15 true (.take 16 <| .eff 17 true (.done) <| .no) <| .no), (35, .take 0 <| .take 1 <| .take 2 <| .take 3 <| .take 4 <| .take 5 <| .take 7 <| .take 8 <| .take 9 <| .take 6 <| .take 10 <| .eff 11 true (.take 12 <| .take 13 <| .done) <| .no)]
def dr323 : List (Nat × Sched) := [(3, .take 0 <| .take 1 <| .take 2 <| .take 3 <| .take 4 <| .take 5 <| .take 6 <| .take 7 <| .take 8 <| .take 9 <| .take 10 <| .take 11 <| .take 12 <| .take 14 <| .take 15 <| .take 16 <| .take 17 <| .take 18 <| .take 13 <| .take 19 <| .take 20 <| .eff 21 true (.take 22 <| .eff 23 true (.done) <| .no) <| .no)]
def dr324 : List (Nat × Sched) := []
def dr325 : List (Nat × Sched) := [(3, .take 0 <| .take 1 <| .take 2 <| .take 3 <| .take 4 <| .take 5 <| .take 6 <| .take 7 <| .take 8 <| .take 9 <| .take 10 <| .take 11 <| .take 12 <| .take 14 <| .take 15 <| .take 16 <| .take 17 <| .take 18 <| .take 13 <| .take 19 <| .take 20 <| .eff 21 true (.take 22 <| .eff 23 true (.done) <| .no) <| .no)]
def dr41 : List (Nat × Sched) := []
def dr44 : List (Nat × Sched) := []
def dr86 : List (Nat × Sched) := []
def dr124 : List (Nat × Sched) := []
def dr106 : List (Nat × Sched) := []
def dr170 : List (Nat × Sched) := []
def dr192 : List (Nat × Sched) := []
def dr129 : List (Nat × Sched) := []
def dr130 : List (Nat × Sched) := []
def dr177 : List (Nat × Sched) := []
def dr287 : List (Nat × Sched) := []
def dr243 : List (Nat × Sched) := []
def dr288 : List (Nat × Sched) := []
def dr290 : List (Nat × Sched) := []
def dr312 : List (Nat × Sched) := []
def dr142 : List (Nat × Sched) := []
def dr182 : List (Nat × Sched) := []
attribute [go_sem] mx bt102 bt104 bt108 bt114 bt116 bt119 bt127 bt138 bt144 bt149 bt159 bt161 bt181 bt199 bt266 bt27 bt272 bt278 bt29 bt31 bt320 bt353 bt38 bt42 bt48 bt52 bt62 bt67 bt75 bt79 bt89 bt92 cv363_3 cv3_363 cvk133_328 cvk328_133 cvk363_3 cvk3_363 el112 el134 el146 el157 el22 el23 el234 el24 el25 el275 el303 el340 el345 el351 el36 el369 el39 el40 el43 el58 el65 el68 el72 el76 el77 el80 el93 el99 fd29_0 fo102_0 fo102_1 fo102_2 fo102_3 fo104_0 fo104_1 fo108_0 fo114_0 fo114_1 fo114_2 fo114_3 fo116_0 fo116_1 fo119_0 fo119_1 fo127_0 fo127_1 fo136_0 fo136_1 fo138_0 fo144_0 fo149_0 fo149_1 fo149_2 fo159_0 fo159_1 fo161_0 fo161_1 fo181_0 fo181_1 fo199_0 fo199_1 fo199_2 fo266_0 fo266_1 fo272_0 fo278_0 fo278_1 fo278_2 fo27_0 fo27_1 fo27_2 fo27_3 fo29_0 fo29_1 fo29_2 fo31_0 fo31_1 fo31_2 fo31_3 fo31_4 fo320_0 fo320_1 fo353_0 fo353_1 fo388_0 fo388_1 fo38_0 fo38_1 fo38_2 fo38_3 fo42_0 fo42_1 fo42_2 fo42_3 fo42_4 fo42_5 fo48_0 fo48_1 fo52_0 fo52_1 fo52_2 fo52_3 fo62_0 fo67_0 fo67_1 fo67_2 fo67_3 fo67_4 fo67_5 fo67_6 fo75_0 fo75_1 fo75_2 fo75_3 fo79_0 fo79_1 fo79_2 fo79_3 fo79_4 fo79_5 fo79_6 fo79_7 fo79_8 fo89_0 fo92_0 ibl4 isl112 isl134 isl146 isl157 isl22 isl23 isl24 isl25 isl275 isl340 isl351 isl36 isl369 isl39 isl40 isl43 isl58 isl65 isl68 isl72 isl76 isl77 isl80 isl9 isl93 isl99 ist112 ist134 ist146 ist157 ist22 ist23 ist24 ist25 ist275 ist340 ist351 ist36 ist369 ist39 ist40 ist43 ist58 ist65 ist68 ist72 ist76 ist77 ist80 ist9 ist93 ist99 mt216 mt242 okt112 okt134 okt146 okt157 okt22 okt23 okt234 okt24 okt25 okt275 okt340 okt345 okt351 okt36 okt369 okt39 okt40 okt43 okt58 okt65 okt68 okt72 okt76 okt77 okt80 okt93 okt99 row112 row134 row146 row157 row22 row23 row234 row24 row25 row275 row340 row345 row351 row36 row369 row39 row40 row43 row58 row65 row68 row72 row76 row77 row80 row93 row99 tk100 tk104 tk112 tk116 tk119 tk121 tk133 tk134 tk136 tk144 tk145 tk146 tk153 tk157 tk159 tk161 tk199 tk2 tk21 tk211 tk22 tk23 tk24 tk25 tk268 tk27 tk278 tk29 tk3 tk303 tk31 tk32 tk325 tk353 tk36 tk38 tk388 tk39 tk4 tk40 tk42 tk43 tk48 tk5 tk52 tk58 tk62 tk65 tk67 tk68 tk75 tk76 tk77 tk79 tk80 tk89 tk9 tk93 tk96 tk98 tk99 dr3 dr4 dr5 dr6 dr7 dr8 dr9 dr10 dr11 dr12 dr13 dr14 dr15 dr16 dr17 dr18 dr19 dr20 dr21 dr22 dr23 dr24 dr25 dr26 dr27 dr28 dr29 dr30 dr31 dr32 dr33 dr34 dr35 dr36 dr37 dr38 dr39 dr40 dr42 dr43 dr46 dr47 dr48 dr49 dr50 dr51 dr52 dr53 dr54 dr55 dr56 dr57 dr58 dr59 dr60 dr61 dr62 dr63 dr64 dr65 dr66 dr67 dr68 dr69 dr70 dr71 dr73 dr74 dr75 dr76 dr77 dr78 dr79 dr80 dr81 dr82 dr83 dr84 dr85 dr87 dr88 dr89 dr90 dr91 dr93 dr94 dr95 dr96 dr97 dr98 dr99 dr100 dr101 dr102 dr103 dr104 dr105 dr107 dr108 dr109 dr110 dr111 dr113 dr114 dr115 dr116 dr117 dr118 dr119 dr120 dr121 dr122 dr123 dr125 dr126 dr127 dr128 dr131 dr132 dr136 dr138 dr139 dr140 dr141 dr143 dr144 dr145 dr146 dr147 dr148 dr149 dr150 dr151 dr152 dr153 dr154 dr155 dr156 dr157 dr158 dr159 dr160 dr161 dr162 dr163 dr164 dr165 dr166 dr167 dr168 dr169 dr172 dr173 dr174 dr175 dr176 dr180 dr183 dr184 dr185 dr186 dr187 dr189 dr190 dr191 dr193 dr194 dr195 dr196 dr197 dr198 dr199 dr200 dr201 dr202 dr203 dr204 dr205 dr206 dr207 dr208 dr209 dr210 dr211 dr212 dr213 dr214 dr215 dr216 dr217 dr218 dr219 dr224 dr225 dr226 dr227 dr228 dr229 dr230 dr231 dr232 dr233 dr242 dr244 dr245 dr246 dr247 dr248 dr249 dr250 dr251 dr252 dr253 dr254 dr255 dr256 dr257 dr258 dr259 dr260 dr261 dr262 dr263 dr269 dr270 dr271 dr272 dr273 dr274 dr291 dr292 dr293 dr294 dr295 dr296 dr297 dr298 dr299 dr300 dr314 dr315 dr316 dr317 dr318 dr323 dr324 dr325 dr41 dr44 dr86 dr124 dr106 dr170 dr192 dr129 dr130 dr177 dr287 dr243 dr288 dr290 dr312 dr142 dr182
attribute [go_sem ↓] conc144 conc89 conc9
set_option maxRecDepth 10000
def wrongV (v : V) : Int :=
  if v.k = 1 then 0 else if v.k = 2 then (if v.n ≠ 0 ∧ v.n ≠ 1 then 3 else 0) else if v.k = 3 then (if v.n > 1000000000000000 ∨ v.n < -1000000000000000 then 3 else 0)
  else if v.k = 4 then (if v.t.length > 60 then 4 else 0) else 1
theorem ct_vals_Wrong (v : V) (M : Mem) : Ct Tryz.prog 127 [.agg ⟨v.cs⟩] M [] [] (fun r _ _ _ => r = .int .i64 (wrongV v)) noPan := by
  intro T
  obtain ⟨k, n, t⟩ := v
  refine ct_run mx bod127 Tryz.func127 rfl (by rw [nt127]; exact Nat.le_of_ble_eq_true rfl) (dr := dr127) (by kernel_rfl) rs127 ?_
  intro _ _
  simp +contextual only [go_sem, Rcb, Rbk, sevalprocAttr, V.cs]
  intro b T1 _ hT _
  (repeat' split) <;> (refine end_none hT ?_; refine int_eq ?_; simp only [wrongV]; grind)
theorem ct_ref1_Wrong (v : V) (M : Mem) : Ct Tryz.prog 60 [.agg ⟨v.cs⟩] M [] [] (fun r _ _ _ => r = .int .i64 (wrongV v)) noPan := by
  intro T
  obtain ⟨k, n, t⟩ := v
  refine ct_run mx bod60 Tryz.func60 rfl (by rw [nt60]; exact Nat.le_of_ble_eq_true rfl) (dr := dr60) (by kernel_rfl) rs60 ?_
  intro _ _
  simp +contextual only [go_sem, Rcb, Rbk, sevalprocAttr, V.cs]
  intro b T1 _ hT _
  (repeat' split) <;> (refine end_none hT ?_; refine int_eq ?_; simp only [wrongV]; grind)
def kidsN (k : Int) : Int := if k = 1 ∨ k = 2 ∨ k = 19 then 0 else if k = 3 ∨ k = 16 ∨ (20 ≤ k ∧ k ≤ 23) then 1 else if (4 ≤ k ∧ k ≤ 15) ∨ k = 18 then 2 else if k = 17 then 3 else -1
def letterB (c : Int) : Bool := (decide (97 ≤ c) && decide (c ≤ 122)) || decide (c = 95)
def digitB (c : Int) : Bool := decide (48 ≤ c) && decide (c ≤ 57)
theorem ct_ref_letter (c : Int) (M : Mem) : Ct Tryz.prog 53 [.int .u8 c] M [] [] (fun r _ _ _ => r = .bool (letterB c)) noPan := by
  intro T
  refine ct_run mx bod53 Tryz.func53 rfl (by rw [nt53]; exact Nat.le_of_ble_eq_true rfl) (dr := dr53) (by kernel_rfl) rs53 ?_
  intro _ _
  simp +contextual only [go_sem, Rcb, Rbk, sevalprocAttr]
  refine end_none ExtT.rfl' ?_
  simp [letterB, Bool.or_comm]
theorem ct_ref_digit (c : Int) (M : Mem) : Ct Tryz.prog 54 [.int .u8 c] M [] [] (fun r _ _ _ => r = .bool (digitB c)) noPan := by
  intro T
  refine ct_run mx bod54 Tryz.func54 rfl (by rw [nt54]; exact Nat.le_of_ble_eq_true rfl) (dr := dr54) (by kernel_rfl) rs54 ?_
  intro _ _
  simp +contextual only [go_sem, Rcb, Rbk, sevalprocAttr]
  refine end_none ExtT.rfl' ?_
  simp [digitB]
structure Tk where
  k : Int
  s : Bs
  at_ : Int
inductive Rs (α : Type) where
  | ok (a : α) (r : List Tk)
  | err (e a : Int)
  | out
theorem Close_dropL {N M R} {k : Sh → Prop} {Lp : LL} : ∀ (L1 : LL), Close ⟨N, M, Lp, R⟩ k → Close ⟨N, M, L1 ++ Lp, R⟩ k
  | [], h => h
  | (_, _) :: L1, h => Close_drop (Close_dropL L1 h)
section
variable {α : Type} {T N : Tm} {M : Mem} {R : RR} {dr : List (Nat × Sched)} {ts : List ResultVar} {post : PostP} {pb : Nat} {lv0 lv : Value} {en op0 op : Int} {d : Option Nat} {s : List Vc.Item} {e : Env} {toks : List Tk} {F : Fi} {ds : List Deferred} {L1 L2 : LL}
end
def idxS (x : Bs) : List Bs → Int
  | [] => -1
  | s :: l => if s = x then 0 else if idxS x l < 0 then -1 else idxS x l + 1
def idxFrom (x : Bs) (l : List Bs) (i : Nat) : Int := if idxS x (l.drop i) < 0 then -1 else idxS x (l.drop i) + i
theorem ct_Index {M : Mem} {l : List Bs} {sv : Value} (x : Bs) (hs : RS M RSt 1 l sv) :
    Ct Tryz.prog 170 [sv, st x] M [] [] (fun r _ _ _ => r = .int .i64 (idxFrom x l 0)) noPan := by
  intro T
  obtain ⟨hb, a, c, rfl, hle, _, hget⟩ := RS_elim (by decide) (fun _ _ => RSt_len) hs
  refine ct_run mx bod170 Tryz.func170 rfl (by rw [nt170]; exact Nat.le_of_ble_eq_true rfl) (dr := dr170) (by kernel_rfl) rs170 ?_
  intro hno _
  simp +contextual only [go_sem, Rcb, Rbk, sevalprocAttr]
  refine loop_range l.length 8 [(0, .slice a l.length c), (1, st x), (6, .slice a l.length c), (7, .int .i64 l.length)] (fun i e h => h = ⟨T, M, [], []⟩ ∧ idxFrom x l 0 = idxFrom x l i) 0 (by omega) (by simp only [live, go_sem, Rcb, Rbk, sevalprocAttr]) (by simp only [go_sem, Rcb, Rbk, sevalprocAttr]) ⟨rfl, rfl⟩ ?_
  rintro i e h hi hlv ht ⟨rfl, hres⟩
  simp only [live, st] at hlv
  by_cases hlt : i < l.length
  · obtain ⟨b, o, cs, rfl, hat, hrs⟩ := hget i l[i] (List.getElem?_eq_getElem hlt)
    unfold RSt at hrs; subst hrs
    have hx := hat.1
    rw [Nat.mul_one] at hx
    have hdrop : l.drop i = l[i] :: l.drop (i + 1) := List.drop_eq_getElem_cons hlt
    simp +contextual only [go_sem, Rcb, Rbk, sevalprocAttr, hlv, ht, hlt, hx]
    split
    · rename_i he
      refine end_none ExtT.rfl' ?_
      rw [he] at hres
      rw [hres]
      unfold idxFrom
      rw [hdrop]
      simp only [idxS, if_true]
      simp
    · rename_i he
      refine lp_range hlt ?_ ?_ ⟨rfl, ?_⟩
      · simp only [live, hlv, go_sem, Rcb, Rbk, sevalprocAttr]
      · simp only [ht, go_sem, Rcb, Rbk, sevalprocAttr, wrap_succ i (by omega)]
      · rw [hres]
        simp only [idxFrom, hdrop, idxS, if_neg (Ne.symm he)]
        split <;> split <;> omega
  · have : i = l.length := by omega
    subst this
    simp +contextual only [go_sem, Rcb, Rbk, sevalprocAttr, hlv, ht, hlt]
    refine end_none ExtT.rfl' ?_
    rw [hres]
    simp [idxFrom, idxS]
theorem idxS_mem (x : Bs) (l : List Bs) : (0 ≤ idxS x l) ↔ x ∈ l := by
  induction l with
  | nil => simp [idxS]
  | cons s l ih =>
    simp only [idxS, List.mem_cons]
    split
    · rename_i h; simp [h]
    · rename_i h
      have hx : x ≠ s := fun he => h he.symm
      rw [show (x = s ∨ x ∈ l) ↔ x ∈ l from by simp [hx], ← ih]
      split <;> omega
theorem ct_Contains {M : Mem} {l : List Bs} {sv : Value} (x : Bs) (hs : RS M RSt 1 l sv) :
    Ct Tryz.prog 106 [sv, st x] M [] [] (fun r _ _ _ => r = .bool (l.contains x)) noPan := by
  intro T
  refine ct_run mx bod106 Tryz.func106 rfl (by rw [nt106]; exact Nat.le_of_ble_eq_true rfl) (dr := dr106) (by kernel_rfl) rs106 ?_
  intro hno _
  simp +contextual only [go_sem, Rcb, Rbk, sevalprocAttr]
  refine rCall_pure (ct_Index x hs T) ?_ (fun _ _ _ _ h => h.elim)
  rintro v M' hM hno rfl
  simp +contextual only [go_sem, Rcb, Rbk, sevalprocAttr]
  refine end_none ExtT.rfl' ?_
  simp only [idxFrom, List.drop_zero]
  have := idxS_mem x l
  by_cases hm : x ∈ l
  · have h0 := this.2 hm
    rw [if_neg (by omega)]
    simp [hm, h0]
  · have h0 : ¬ 0 ≤ idxS x l := fun h => hm (this.1 h)
    rw [if_pos (by omega)]
    simp [hm]
end Go.Proofs.YtmccpbcbofhmlaaGreatDoor
namespace Go.Proofs
open Go.Shelf
end Go.Proofs
namespace Go.Proofs.YtmccpbcbofhmlaaGreatDoor
open Go Vc
set_option maxRecDepth 10000
def wordsL : List Bs := [[99, 114, 101, 97, 116, 101],
  [116, 97, 98, 108, 101],
  [118, 105, 101, 119],
  [97, 115],
  [105, 110, 115, 101, 114, 116],
  [105, 110, 116, 111],
  [118, 97, 108, 117, 101, 115],
  [100, 101, 108, 101, 116, 101],
  [102, 114, 111, 109],
  [119, 104, 101, 114, 101],
  [115, 104, 111, 119],
  [115, 101, 108, 101, 99, 116],
  [100, 105, 115, 116, 105, 110, 99, 116],
  [103, 114, 111, 117, 112],
  [98, 121],
  [104, 97, 118, 105, 110, 103],
  [117, 110, 105, 111, 110],
  [97, 108, 108],
  [101, 120, 99, 101, 112, 116],
  [111, 114, 100, 101, 114],
  [108, 105, 109, 105, 116],
  [106, 111, 105, 110],
  [108, 101, 102, 116],
  [115, 101, 109, 105],
  [97, 110, 116, 105],
  [111, 110],
  [97, 110, 100],
  [111, 114],
  [110, 111, 116],
  [105, 115],
  [110, 117, 108, 108],
  [116, 114, 117, 101],
  [102, 97, 108, 115, 101],
  [99, 97, 115, 101],
  [119, 104, 101, 110],
  [116, 104, 101, 110],
  [101, 108, 115, 101],
  [101, 110, 100],
  [99, 111, 97, 108, 101, 115, 99, 101],
  [99, 111, 117, 110, 116],
  [115, 117, 109],
  [109, 105, 110],
  [109, 97, 120],
  [105, 110, 116],
  [116, 101, 120, 116],
  [98, 111, 111, 108]]
def Glob (M : Mem) : Prop := ∀ g, Tryz.prog.globalNamed "strings.asciiSpace" = some g → M g = some (Lib.asciiSpaceTab.map fun z => Value.int .u8 z)
theorem Glob.ext {M M' : Mem} (h : Glob M) (he : Ext M M') : Glob M' := fun g hg => he _ _ (h g hg)
theorem Glob.tab {M : Mem} {w : World} (h : Glob M) (hw : Holds M w) : Lib.TabIs Tryz.prog w "strings.asciiSpace" .u8 Lib.asciiSpaceTab := by
  unfold Lib.TabIs World.var?
  cases hg : Tryz.prog.globalNamed "strings.asciiSpace" with
  | none => have h2 : (Tryz.prog.globalNamed "strings.asciiSpace").isSome = true := by kernel_rfl
            rw [hg] at h2; cases h2
  | some g =>
    obtain ⟨t, f, ht⟩ := hw g _ (h g hg)
    simp [ht]
def chOk (i : Nat) (c : UInt8) : Bool := letterB c.toNat || (decide (i ≠ 0) && digitB c.toNat)
def okFrom : Nat → Bs → Bool
  | _, [] => true
  | i, c :: l => chOk i c && okFrom (i + 1) l
def namedB (s : Bs) : Bool := decide (1 ≤ s.length ∧ s.length ≤ 12) && !wordsL.contains s && okFrom 0 s
theorem byteAt_bs {s : Bs} {i : Nat} (h : i < s.length) : byteAt (bs s) i = s[i] := by
  simp [byteAt, bs, h]
def numM (s : Bs) : Nat := s.foldl (fun n c => n * 10 + (c.toNat - 48)) 0
def intT (neg : Bool) (at0 en : Int) : List Tk → Rs Int
  | [] => .err 2 en
  | t :: r => if t.k = 2 then (if (numM t.s : Int) > 1000000000000000 then .err 3 at0 else .ok (if neg = true then -(numM t.s : Int) else numM t.s) r) else .err 2 t.at_
def Rs.map {α β : Type} (f : α → β) : Rs α → Rs β
  | .ok a r => .ok (f a) r
  | .err e a => .err e a
  | .out => .out
theorem RX_form {M : Mem} {x : X} {cs} (h : RX M x cs) : ∃ s, cs = [.int .i64 x.k, .int .i64 x.v.k, .int .i64 x.v.n, st x.v.t, st x.tab, st x.name, s] ∧ s.oneCell' = true ∧ RS M (RX M) 7 x.kids s := by
  obtain ⟨s, rfl, hs⟩ := RX_iff.1 h
  refine ⟨s, rfl, ?_, hs⟩
  obtain ⟨_, _, h2, _⟩ := hs
  rcases h2 with ⟨_, _, rfl, _⟩ | ⟨b, o, n, c, rfl, _⟩ <;> rfl
structure Lvl where
  signs : List Bs
  kind : Int
  once : Bool
def Rs.bind {α β : Type} (r : Rs α) (f : α → List Tk → Rs β) : Rs β := match r with
  | .ok a t => f a t
  | .err e a => .err e a
  | .out => .out
section
variable {α β : Type} {T N : Tm} {M : Mem} {R : RR} {dr : List (Nat × Sched)} {ts : List ResultVar} {post : PostP} {pb : Nat} {lv0 lv : Value} {en op0 op : Int} {d : Option Nat} {s : List Vc.Item} {e : Env} {toks : List Tk} {L1 : LL}
end
theorem RX_oneC {M : Mem} {x : X} {cs : List Value} (h : RX M x cs) : ∀ u ∈ cs, u.oneCell' = true := by
  obtain ⟨s, rfl, h1, _⟩ := RX_form h
  intro u hu
  simp only [List.mem_cons, List.not_mem_nil, or_false] at hu
  rcases hu with rfl | rfl | rfl | rfl | rfl | rfl | rfl <;> first | rfl | exact h1
end Go.Proofs.YtmccpbcbofhmlaaGreatDoor
