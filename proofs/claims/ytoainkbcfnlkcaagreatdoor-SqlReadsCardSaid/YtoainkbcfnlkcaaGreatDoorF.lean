import Derived.Test.YtoainkbcfnlkcaaGreatDoorProg
import Derived.Test.YtoainkbcfnlkcaaGreatDoorV2
set_option linter.all false
namespace Go.Proofs.YtoainkbcfnlkcaaGreatDoor
open Go Vc
theorem mx : Tryz.prog.follows .mixedOrders = true := by kernel_rfl
theorem b2s37_9 : isB2S Tryz.prog 37 9 = true := by kernel_rfl
theorem bod100 : bodied Tryz.prog 100 = true := by kernel_rfl
theorem bod101 : bodied Tryz.prog 101 = true := by kernel_rfl
theorem bod102 : bodied Tryz.prog 102 = true := by kernel_rfl
theorem bod103 : bodied Tryz.prog 103 = true := by kernel_rfl
theorem bod104 : bodied Tryz.prog 104 = true := by kernel_rfl
theorem bod105 : bodied Tryz.prog 105 = true := by kernel_rfl
theorem bod106 : bodied Tryz.prog 106 = true := by kernel_rfl
theorem bod107 : bodied Tryz.prog 107 = true := by kernel_rfl
theorem bod108 : bodied Tryz.prog 108 = true := by kernel_rfl
theorem bod109 : bodied Tryz.prog 109 = true := by kernel_rfl
theorem bod11 : bodied Tryz.prog 11 = true := by kernel_rfl
theorem bod110 : bodied Tryz.prog 110 = true := by kernel_rfl
theorem bod111 : bodied Tryz.prog 111 = true := by kernel_rfl
theorem bod112 : bodied Tryz.prog 112 = true := by kernel_rfl
theorem bod113 : bodied Tryz.prog 113 = true := by kernel_rfl
theorem bod114 : bodied Tryz.prog 114 = true := by kernel_rfl
theorem bod115 : bodied Tryz.prog 115 = true := by kernel_rfl
theorem bod116 : bodied Tryz.prog 116 = true := by kernel_rfl
theorem bod117 : bodied Tryz.prog 117 = true := by kernel_rfl
theorem bod118 : bodied Tryz.prog 118 = true := by kernel_rfl
theorem bod119 : bodied Tryz.prog 119 = true := by kernel_rfl
theorem bod12 : bodied Tryz.prog 12 = true := by kernel_rfl
theorem bod120 : bodied Tryz.prog 120 = true := by kernel_rfl
theorem bod13 : bodied Tryz.prog 13 = true := by kernel_rfl
theorem bod131 : bodied Tryz.prog 131 = true := by kernel_rfl
theorem bod132 : bodied Tryz.prog 132 = true := by kernel_rfl
theorem bod137 : bodied Tryz.prog 137 = true := by kernel_rfl
theorem bod138 : bodied Tryz.prog 138 = true := by kernel_rfl
theorem bod139 : bodied Tryz.prog 139 = true := by kernel_rfl
theorem bod14 : bodied Tryz.prog 14 = true := by kernel_rfl
theorem bod140 : bodied Tryz.prog 140 = true := by kernel_rfl
theorem bod141 : bodied Tryz.prog 141 = true := by kernel_rfl
theorem bod142 : bodied Tryz.prog 142 = true := by kernel_rfl
theorem bod143 : bodied Tryz.prog 143 = true := by kernel_rfl
theorem bod144 : bodied Tryz.prog 144 = true := by kernel_rfl
theorem bod145 : bodied Tryz.prog 145 = true := by kernel_rfl
theorem bod146 : bodied Tryz.prog 146 = true := by kernel_rfl
theorem bod147 : bodied Tryz.prog 147 = true := by kernel_rfl
theorem bod148 : bodied Tryz.prog 148 = true := by kernel_rfl
theorem bod149 : bodied Tryz.prog 149 = true := by kernel_rfl
theorem bod15 : bodied Tryz.prog 15 = true := by kernel_rfl
theorem bod150 : bodied Tryz.prog 150 = true := by kernel_rfl
theorem bod151 : bodied Tryz.prog 151 = true := by kernel_rfl
theorem bod152 : bodied Tryz.prog 152 = true := by kernel_rfl
theorem bod153 : bodied Tryz.prog 153 = true := by kernel_rfl
theorem bod159 : bodied Tryz.prog 159 = true := by kernel_rfl
theorem bod160 : bodied Tryz.prog 160 = true := by kernel_rfl
theorem bod161 : bodied Tryz.prog 161 = true := by kernel_rfl
theorem bod162 : bodied Tryz.prog 162 = true := by kernel_rfl
theorem bod163 : bodied Tryz.prog 163 = true := by kernel_rfl
theorem bod164 : bodied Tryz.prog 164 = true := by kernel_rfl
theorem bod168 : bodied Tryz.prog 168 = true := by kernel_rfl
theorem bod169 : bodied Tryz.prog 169 = true := by kernel_rfl
theorem bod170 : bodied Tryz.prog 170 = true := by kernel_rfl
theorem bod181 : bodied Tryz.prog 181 = true := by kernel_rfl
theorem bod182 : bodied Tryz.prog 182 = true := by kernel_rfl
theorem bod188 : bodied Tryz.prog 188 = true := by kernel_rfl
theorem bod19 : bodied Tryz.prog 19 = true := by kernel_rfl
theorem bod203 : bodied Tryz.prog 203 = true := by kernel_rfl
theorem bod210 : bodied Tryz.prog 210 = true := by kernel_rfl
theorem bod212 : bodied Tryz.prog 212 = true := by kernel_rfl
theorem bod213 : bodied Tryz.prog 213 = true := by kernel_rfl
theorem bod27 : bodied Tryz.prog 27 = true := by kernel_rfl
theorem bod28 : bodied Tryz.prog 28 = true := by kernel_rfl
theorem bod29 : bodied Tryz.prog 29 = true := by kernel_rfl
theorem bod3 : bodied Tryz.prog 3 = true := by kernel_rfl
theorem bod30 : bodied Tryz.prog 30 = true := by kernel_rfl
theorem bod31 : bodied Tryz.prog 31 = true := by kernel_rfl
theorem bod32 : bodied Tryz.prog 32 = true := by kernel_rfl
theorem bod33 : bodied Tryz.prog 33 = true := by kernel_rfl
theorem bod34 : bodied Tryz.prog 34 = true := by kernel_rfl
theorem bod35 : bodied Tryz.prog 35 = true := by kernel_rfl
theorem bod36 : bodied Tryz.prog 36 = true := by kernel_rfl
theorem bod37 : bodied Tryz.prog 37 = true := by kernel_rfl
theorem bod38 : bodied Tryz.prog 38 = true := by kernel_rfl
theorem bod39 : bodied Tryz.prog 39 = true := by kernel_rfl
theorem bod40 : bodied Tryz.prog 40 = true := by kernel_rfl
theorem bod41 : bodied Tryz.prog 41 = true := by kernel_rfl
theorem bod42 : bodied Tryz.prog 42 = true := by kernel_rfl
theorem bod43 : bodied Tryz.prog 43 = true := by kernel_rfl
theorem bod44 : bodied Tryz.prog 44 = true := by kernel_rfl
theorem bod45 : bodied Tryz.prog 45 = true := by kernel_rfl
theorem bod47 : bodied Tryz.prog 47 = true := by kernel_rfl
theorem bod52 : bodied Tryz.prog 52 = true := by kernel_rfl
theorem bod59 : bodied Tryz.prog 59 = true := by kernel_rfl
theorem bod60 : bodied Tryz.prog 60 = true := by kernel_rfl
theorem bod61 : bodied Tryz.prog 61 = true := by kernel_rfl
theorem bod62 : bodied Tryz.prog 62 = true := by kernel_rfl
theorem bod63 : bodied Tryz.prog 63 = true := by kernel_rfl
theorem bod64 : bodied Tryz.prog 64 = true := by kernel_rfl
theorem bod65 : bodied Tryz.prog 65 = true := by kernel_rfl
theorem bod66 : bodied Tryz.prog 66 = true := by kernel_rfl
theorem bod67 : bodied Tryz.prog 67 = true := by kernel_rfl
theorem bod68 : bodied Tryz.prog 68 = true := by kernel_rfl
theorem bod69 : bodied Tryz.prog 69 = true := by kernel_rfl
theorem bod70 : bodied Tryz.prog 70 = true := by kernel_rfl
theorem bod71 : bodied Tryz.prog 71 = true := by kernel_rfl
theorem bod72 : bodied Tryz.prog 72 = true := by kernel_rfl
theorem bod73 : bodied Tryz.prog 73 = true := by kernel_rfl
theorem bod74 : bodied Tryz.prog 74 = true := by kernel_rfl
theorem bod75 : bodied Tryz.prog 75 = true := by kernel_rfl
theorem bod76 : bodied Tryz.prog 76 = true := by kernel_rfl
theorem bod77 : bodied Tryz.prog 77 = true := by kernel_rfl
theorem bod78 : bodied Tryz.prog 78 = true := by kernel_rfl
theorem bod79 : bodied Tryz.prog 79 = true := by kernel_rfl
theorem bod85 : bodied Tryz.prog 85 = true := by kernel_rfl
theorem bod86 : bodied Tryz.prog 86 = true := by kernel_rfl
theorem bod87 : bodied Tryz.prog 87 = true := by kernel_rfl
theorem bod88 : bodied Tryz.prog 88 = true := by kernel_rfl
theorem bod94 : bodied Tryz.prog 94 = true := by kernel_rfl
theorem bod95 : bodied Tryz.prog 95 = true := by kernel_rfl
theorem bod96 : bodied Tryz.prog 96 = true := by kernel_rfl
theorem bod97 : bodied Tryz.prog 97 = true := by kernel_rfl
theorem bod98 : bodied Tryz.prog 98 = true := by kernel_rfl
theorem bod99 : bodied Tryz.prog 99 = true := by kernel_rfl
theorem bt113 : bt Tryz.prog 113 = some ([(.int .i64 (0)), (.string ⟨#[]⟩), (.int .i64 (0))], [(0, 1), (1, 1), (2, 1)]) := by kernel_rfl
theorem bt123 : bt Tryz.prog 123 = some ([(.int .u8 (0)), (.string ⟨#[]⟩), (.int .i64 (0))], [(0, 1), (1, 1), (2, 1)]) := by kernel_rfl
theorem bt129 : bt Tryz.prog 129 = some ([(.int .i64 (0)), (.string ⟨#[]⟩), (.string ⟨#[]⟩), (.int .i64 (0)), (.int .i64 (0)), (.int .i64 (0)), (.string ⟨#[]⟩), (.string ⟨#[]⟩), (.string ⟨#[]⟩), (.slice none 0 0)], [(0, 1), (1, 1), (2, 1), (3, 7)]) := by kernel_rfl
theorem bt184 : bt Tryz.prog 184 = some ([(.int .i64 (0))], [(0, 1)]) := by kernel_rfl
theorem bt196 : bt Tryz.prog 196 = some ([(.slice none 0 0), (.int .i64 (0)), (.bool false)], [(0, 1), (1, 1), (2, 1)]) := by kernel_rfl
theorem bt25 : bt Tryz.prog 25 = some ([(.int .i64 (0)), (.int .i64 (0))], [(0, 1), (1, 1)]) := by kernel_rfl
theorem bt47 : bt Tryz.prog 47 = some ([(.int .i64 (0)), (.int .i64 (0))], [(0, 2)]) := by kernel_rfl
theorem bt52 : bt Tryz.prog 52 = some ([(.slice none 0 0), (.int .i64 (0)), (.int .i64 (0))], [(0, 1), (1, 1), (2, 1)]) := by kernel_rfl
theorem bt60 : bt Tryz.prog 60 = some ([(.slice none 0 0), (.slice none 0 0), (.slice none 0 0), (.int .i64 (0))], [(0, 1), (1, 1), (2, 1), (3, 1)]) := by kernel_rfl
theorem bt63 : bt Tryz.prog 63 = some ([(.int .i64 (0)), (.int .i64 (0)), (.string ⟨#[]⟩)], [(0, 1), (1, 1), (2, 1)]) := by kernel_rfl
theorem bt65 : bt Tryz.prog 65 = some ([(.int .i64 (0)), (.int .i64 (0)), (.int .i64 (0)), (.string ⟨#[]⟩), (.string ⟨#[]⟩), (.string ⟨#[]⟩), (.slice none 0 0)], [(0, 1), (1, 3), (4, 1), (5, 1), (6, 1)]) := by kernel_rfl
theorem bt67 : bt Tryz.prog 67 = some ([(.int .i64 (0)), (.string ⟨#[]⟩), (.slice none 0 0), (.slice none 0 0), (.slice none 0 0), (.slice none 0 0), (.int .i64 (0)), (.slice none 0 0), (.bool false), (.int .i64 (0)), (.int .i64 (0)), (.int .i64 (0)), (.string ⟨#[]⟩), (.string ⟨#[]⟩), (.string ⟨#[]⟩), (.slice none 0 0)], [(0, 1), (1, 1), (2, 1), (3, 4), (7, 1), (8, 1), (9, 7)]) := by kernel_rfl
theorem bt75 : bt Tryz.prog 75 = some ([(.slice none 0 0), (.int .i64 (0)), (.int .i64 (0)), (.int .i64 (0)), (.int .i64 (0))], [(0, 1), (1, 1), (2, 1), (3, 2)]) := by kernel_rfl
theorem bt80 : bt Tryz.prog 80 = some ([(.string ⟨#[]⟩), (.int .i64 (0))], [(0, 1), (1, 1)]) := by kernel_rfl
theorem bt87 : bt Tryz.prog 87 = some ([(.int .i64 (0)), (.int .i64 (0)), (.int .i64 (0)), (.string ⟨#[]⟩), (.string ⟨#[]⟩), (.string ⟨#[]⟩), (.slice none 0 0), (.string ⟨#[]⟩)], [(0, 7), (7, 1)]) := by kernel_rfl
theorem bt91 : bt Tryz.prog 91 = some ([(.bool false), (.bool false), (.slice none 0 0), (.slice none 0 0), (.bool false), (.bool false), (.int .i64 (0)), (.int .i64 (0)), (.int .i64 (0)), (.string ⟨#[]⟩), (.string ⟨#[]⟩), (.string ⟨#[]⟩), (.slice none 0 0), (.int .i64 (0)), (.int .i64 (0)), (.int .i64 (0)), (.string ⟨#[]⟩), (.string ⟨#[]⟩), (.string ⟨#[]⟩), (.slice none 0 0), (.slice none 0 0)], [(0, 1), (1, 1), (2, 1), (3, 1), (4, 1), (5, 1), (6, 7), (13, 7), (20, 1)]) := by kernel_rfl
theorem bt97 : bt Tryz.prog 97 = some ([(.pointer none), (.slice none 0 0)], [(0, 2)]) := by kernel_rfl
theorem conc47 : Tryz.prog.concrete 47 = true := by kernel_rfl
theorem cv144_5 : cvT Tryz.prog 144 5 = some .u8 := by kernel_rfl
theorem cv3_5 : cvT Tryz.prog 3 5 = some .u8 := by kernel_rfl
theorem cv5_144 : cvT Tryz.prog 5 144 = some .u16 := by kernel_rfl
theorem cv5_2 : cvT Tryz.prog 5 2 = some .i64 := by kernel_rfl
theorem cv5_3 : cvT Tryz.prog 5 3 = some .i64 := by kernel_rfl
theorem cvk144_5 : cvK Tryz.prog 144 5 = 0 := by kernel_rfl
theorem cvk37_37 : cvK Tryz.prog 37 37 = 2 := by kernel_rfl
theorem cvk37_9 : cvK Tryz.prog 37 9 = 0 := by kernel_rfl
theorem cvk3_5 : cvK Tryz.prog 3 5 = 0 := by kernel_rfl
theorem cvk5_144 : cvK Tryz.prog 5 144 = 0 := by kernel_rfl
theorem cvk5_2 : cvK Tryz.prog 5 2 = 0 := by kernel_rfl
theorem cvk5_3 : cvK Tryz.prog 5 3 = 0 := by kernel_rfl
theorem cvk9_37 : cvK Tryz.prog 9 37 = 1 := by kernel_rfl
theorem el170 : elSize Tryz.prog 170 = some 1 := by kernel_rfl
theorem el193 : elSize Tryz.prog 193 = some 3 := by kernel_rfl
theorem el22 : elSize Tryz.prog 22 = some 16 := by kernel_rfl
theorem el240 : elSize Tryz.prog 240 = some 1 := by kernel_rfl
theorem el37 : elSize Tryz.prog 37 = some 1 := by kernel_rfl
theorem el49 : elSize Tryz.prog 49 = some 3 := by kernel_rfl
theorem el55 : elSize Tryz.prog 55 = some 2 := by kernel_rfl
theorem el56 : elSize Tryz.prog 56 = some 21 := by kernel_rfl
theorem el57 : elSize Tryz.prog 57 = some 1 := by kernel_rfl
theorem el58 : elSize Tryz.prog 58 = some 7 := by kernel_rfl
theorem el61 : elSize Tryz.prog 61 = some 1 := by kernel_rfl
theorem el70 : elSize Tryz.prog 70 = some 3 := by kernel_rfl
theorem el81 : elSize Tryz.prog 81 = some 3 := by kernel_rfl
theorem el83 : elSize Tryz.prog 83 = some 1 := by kernel_rfl
theorem el88 : elSize Tryz.prog 88 = some 8 := by kernel_rfl
theorem el89 : elSize Tryz.prog 89 = some 10 := by kernel_rfl
theorem fd25_0 : fdP Tryz.prog 25 0 = some (false, 0, 1) := by kernel_rfl
theorem fo113_0 : fOff Tryz.prog 113 0 = some 0 := by kernel_rfl
theorem fo113_1 : fOff Tryz.prog 113 1 = some 1 := by kernel_rfl
theorem fo113_2 : fOff Tryz.prog 113 2 = some 2 := by kernel_rfl
theorem fo123_0 : fOff Tryz.prog 123 0 = some 0 := by kernel_rfl
theorem fo123_1 : fOff Tryz.prog 123 1 = some 1 := by kernel_rfl
theorem fo123_2 : fOff Tryz.prog 123 2 = some 2 := by kernel_rfl
theorem fo129_0 : fOff Tryz.prog 129 0 = some 0 := by kernel_rfl
theorem fo129_1 : fOff Tryz.prog 129 1 = some 1 := by kernel_rfl
theorem fo129_2 : fOff Tryz.prog 129 2 = some 2 := by kernel_rfl
theorem fo129_3 : fOff Tryz.prog 129 3 = some 3 := by kernel_rfl
theorem fo184_0 : fOff Tryz.prog 184 0 = some 0 := by kernel_rfl
theorem fo196_0 : fOff Tryz.prog 196 0 = some 0 := by kernel_rfl
theorem fo196_1 : fOff Tryz.prog 196 1 = some 1 := by kernel_rfl
theorem fo196_2 : fOff Tryz.prog 196 2 = some 2 := by kernel_rfl
theorem fo25_0 : fOff Tryz.prog 25 0 = some 0 := by kernel_rfl
theorem fo47_0 : fOff Tryz.prog 47 0 = some 0 := by kernel_rfl
theorem fo52_0 : fOff Tryz.prog 52 0 = some 0 := by kernel_rfl
theorem fo52_1 : fOff Tryz.prog 52 1 = some 1 := by kernel_rfl
theorem fo52_2 : fOff Tryz.prog 52 2 = some 2 := by kernel_rfl
theorem fo60_0 : fOff Tryz.prog 60 0 = some 0 := by kernel_rfl
theorem fo60_1 : fOff Tryz.prog 60 1 = some 1 := by kernel_rfl
theorem fo60_2 : fOff Tryz.prog 60 2 = some 2 := by kernel_rfl
theorem fo60_3 : fOff Tryz.prog 60 3 = some 3 := by kernel_rfl
theorem fo63_0 : fOff Tryz.prog 63 0 = some 0 := by kernel_rfl
theorem fo63_1 : fOff Tryz.prog 63 1 = some 1 := by kernel_rfl
theorem fo63_2 : fOff Tryz.prog 63 2 = some 2 := by kernel_rfl
theorem fo65_0 : fOff Tryz.prog 65 0 = some 0 := by kernel_rfl
theorem fo65_1 : fOff Tryz.prog 65 1 = some 1 := by kernel_rfl
theorem fo65_2 : fOff Tryz.prog 65 2 = some 4 := by kernel_rfl
theorem fo65_3 : fOff Tryz.prog 65 3 = some 5 := by kernel_rfl
theorem fo65_4 : fOff Tryz.prog 65 4 = some 6 := by kernel_rfl
theorem fo67_0 : fOff Tryz.prog 67 0 = some 0 := by kernel_rfl
theorem fo67_1 : fOff Tryz.prog 67 1 = some 1 := by kernel_rfl
theorem fo67_2 : fOff Tryz.prog 67 2 = some 2 := by kernel_rfl
theorem fo67_3 : fOff Tryz.prog 67 3 = some 3 := by kernel_rfl
theorem fo67_4 : fOff Tryz.prog 67 4 = some 7 := by kernel_rfl
theorem fo67_5 : fOff Tryz.prog 67 5 = some 8 := by kernel_rfl
theorem fo67_6 : fOff Tryz.prog 67 6 = some 9 := by kernel_rfl
theorem fo75_0 : fOff Tryz.prog 75 0 = some 0 := by kernel_rfl
theorem fo75_1 : fOff Tryz.prog 75 1 = some 1 := by kernel_rfl
theorem fo75_2 : fOff Tryz.prog 75 2 = some 2 := by kernel_rfl
theorem fo75_3 : fOff Tryz.prog 75 3 = some 3 := by kernel_rfl
theorem fo80_0 : fOff Tryz.prog 80 0 = some 0 := by kernel_rfl
theorem fo80_1 : fOff Tryz.prog 80 1 = some 1 := by kernel_rfl
theorem fo87_0 : fOff Tryz.prog 87 0 = some 0 := by kernel_rfl
theorem fo87_1 : fOff Tryz.prog 87 1 = some 7 := by kernel_rfl
theorem fo91_0 : fOff Tryz.prog 91 0 = some 0 := by kernel_rfl
theorem fo91_1 : fOff Tryz.prog 91 1 = some 1 := by kernel_rfl
theorem fo91_2 : fOff Tryz.prog 91 2 = some 2 := by kernel_rfl
theorem fo91_3 : fOff Tryz.prog 91 3 = some 3 := by kernel_rfl
theorem fo91_4 : fOff Tryz.prog 91 4 = some 4 := by kernel_rfl
theorem fo91_5 : fOff Tryz.prog 91 5 = some 5 := by kernel_rfl
theorem fo91_6 : fOff Tryz.prog 91 6 = some 6 := by kernel_rfl
theorem fo91_7 : fOff Tryz.prog 91 7 = some 13 := by kernel_rfl
theorem fo91_8 : fOff Tryz.prog 91 8 = some 20 := by kernel_rfl
theorem fo95_1 : fOff Tryz.prog 95 1 = some 1 := by kernel_rfl
theorem fo97_0 : fOff Tryz.prog 97 0 = some 0 := by kernel_rfl
theorem ibl4 : isBoolT Tryz.prog 4 = true := by kernel_rfl
theorem isl193 : isSlT Tryz.prog 193 = true := by kernel_rfl
theorem isl22 : isSlT Tryz.prog 22 = true := by kernel_rfl
theorem isl240 : isSlT Tryz.prog 240 = true := by kernel_rfl
theorem isl37 : isSlT Tryz.prog 37 = true := by kernel_rfl
theorem isl49 : isSlT Tryz.prog 49 = true := by kernel_rfl
theorem isl55 : isSlT Tryz.prog 55 = true := by kernel_rfl
theorem isl56 : isSlT Tryz.prog 56 = true := by kernel_rfl
theorem isl57 : isSlT Tryz.prog 57 = true := by kernel_rfl
theorem isl58 : isSlT Tryz.prog 58 = true := by kernel_rfl
theorem isl61 : isSlT Tryz.prog 61 = true := by kernel_rfl
theorem isl70 : isSlT Tryz.prog 70 = true := by kernel_rfl
theorem isl81 : isSlT Tryz.prog 81 = true := by kernel_rfl
theorem isl83 : isSlT Tryz.prog 83 = true := by kernel_rfl
theorem isl88 : isSlT Tryz.prog 88 = true := by kernel_rfl
theorem isl89 : isSlT Tryz.prog 89 = true := by kernel_rfl
theorem isl9 : isSlT Tryz.prog 9 = false := by kernel_rfl
theorem ist193 : isStrT Tryz.prog 193 = false := by kernel_rfl
theorem ist22 : isStrT Tryz.prog 22 = false := by kernel_rfl
theorem ist240 : isStrT Tryz.prog 240 = false := by kernel_rfl
theorem ist37 : isStrT Tryz.prog 37 = false := by kernel_rfl
theorem ist49 : isStrT Tryz.prog 49 = false := by kernel_rfl
theorem ist55 : isStrT Tryz.prog 55 = false := by kernel_rfl
theorem ist56 : isStrT Tryz.prog 56 = false := by kernel_rfl
theorem ist57 : isStrT Tryz.prog 57 = false := by kernel_rfl
theorem ist58 : isStrT Tryz.prog 58 = false := by kernel_rfl
theorem ist61 : isStrT Tryz.prog 61 = false := by kernel_rfl
theorem ist70 : isStrT Tryz.prog 70 = false := by kernel_rfl
theorem ist81 : isStrT Tryz.prog 81 = false := by kernel_rfl
theorem ist83 : isStrT Tryz.prog 83 = false := by kernel_rfl
theorem ist88 : isStrT Tryz.prog 88 = false := by kernel_rfl
theorem ist89 : isStrT Tryz.prog 89 = false := by kernel_rfl
theorem ist9 : isStrT Tryz.prog 9 = true := by kernel_rfl
theorem mt180 : mapT Tryz.prog 180 = some .i64 := by kernel_rfl
theorem nt100 : Tryz.f100.ntmps = 42 := by kernel_rfl
theorem nt101 : Tryz.f101.ntmps = 77 := by kernel_rfl
theorem nt102 : Tryz.f102.ntmps = 24 := by kernel_rfl
theorem nt103 : Tryz.f103.ntmps = 24 := by kernel_rfl
theorem nt104 : Tryz.f104.ntmps = 57 := by kernel_rfl
theorem nt105 : Tryz.f105.ntmps = 24 := by kernel_rfl
theorem nt106 : Tryz.f106.ntmps = 15 := by kernel_rfl
theorem nt107 : Tryz.f107.ntmps = 76 := by kernel_rfl
theorem nt108 : Tryz.f108.ntmps = 19 := by kernel_rfl
theorem nt109 : Tryz.f109.ntmps = 88 := by kernel_rfl
theorem nt11 : Tryz.f11.ntmps = 43 := by kernel_rfl
theorem nt110 : Tryz.f110.ntmps = 25 := by kernel_rfl
theorem nt111 : Tryz.f111.ntmps = 21 := by kernel_rfl
theorem nt112 : Tryz.f112.ntmps = 114 := by kernel_rfl
theorem nt113 : Tryz.f113.ntmps = 19 := by kernel_rfl
theorem nt114 : Tryz.f114.ntmps = 56 := by kernel_rfl
theorem nt115 : Tryz.f115.ntmps = 45 := by kernel_rfl
theorem nt116 : Tryz.f116.ntmps = 21 := by kernel_rfl
theorem nt117 : Tryz.f117.ntmps = 15 := by kernel_rfl
theorem nt118 : Tryz.f118.ntmps = 48 := by kernel_rfl
theorem nt119 : Tryz.f119.ntmps = 6 := by kernel_rfl
theorem nt12 : Tryz.f12.ntmps = 60 := by kernel_rfl
theorem nt120 : Tryz.f120.ntmps = 99 := by kernel_rfl
theorem nt13 : Tryz.f13.ntmps = 148 := by kernel_rfl
theorem nt131 : Tryz.f131.ntmps = 132 := by kernel_rfl
theorem nt132 : Tryz.f132.ntmps = 104 := by kernel_rfl
theorem nt137 : Tryz.f137.ntmps = 18 := by kernel_rfl
theorem nt138 : Tryz.f138.ntmps = 24 := by kernel_rfl
theorem nt139 : Tryz.f139.ntmps = 13 := by kernel_rfl
theorem nt14 : Tryz.f14.ntmps = 49 := by kernel_rfl
theorem nt140 : Tryz.f140.ntmps = 24 := by kernel_rfl
theorem nt141 : Tryz.f141.ntmps = 23 := by kernel_rfl
theorem nt143 : Tryz.f143.ntmps = 8 := by kernel_rfl
theorem nt144 : Tryz.f144.ntmps = 15 := by kernel_rfl
theorem nt145 : Tryz.f145.ntmps = 136 := by kernel_rfl
theorem nt146 : Tryz.f146.ntmps = 9 := by kernel_rfl
theorem nt147 : Tryz.f147.ntmps = 19 := by kernel_rfl
theorem nt148 : Tryz.f148.ntmps = 12 := by kernel_rfl
theorem nt149 : Tryz.f149.ntmps = 25 := by kernel_rfl
theorem nt15 : Tryz.f15.ntmps = 37 := by kernel_rfl
theorem nt150 : Tryz.f150.ntmps = 15 := by kernel_rfl
theorem nt151 : Tryz.f151.ntmps = 12 := by kernel_rfl
theorem nt152 : Tryz.f152.ntmps = 78 := by kernel_rfl
theorem nt153 : Tryz.f153.ntmps = 152 := by kernel_rfl
theorem nt159 : Tryz.f159.ntmps = 18 := by kernel_rfl
theorem nt160 : Tryz.f160.ntmps = 12 := by kernel_rfl
theorem nt161 : Tryz.f161.ntmps = 12 := by kernel_rfl
theorem nt162 : Tryz.f162.ntmps = 8 := by kernel_rfl
theorem nt163 : Tryz.f163.ntmps = 44 := by kernel_rfl
theorem nt164 : Tryz.f164.ntmps = 43 := by kernel_rfl
theorem nt168 : Tryz.f168.ntmps = 24 := by kernel_rfl
theorem nt169 : Tryz.f169.ntmps = 13 := by kernel_rfl
theorem nt170 : Tryz.f170.ntmps = 15 := by kernel_rfl
theorem nt181 : Tryz.f181.ntmps = 8 := by kernel_rfl
theorem nt182 : Tryz.f182.ntmps = 7 := by kernel_rfl
theorem nt188 : Tryz.f188.ntmps = 44 := by kernel_rfl
theorem nt19 : Tryz.f19.ntmps = 25 := by kernel_rfl
theorem nt203 : Tryz.f203.ntmps = 31 := by kernel_rfl
theorem nt210 : Tryz.f210.ntmps = 15 := by kernel_rfl
theorem nt212 : Tryz.f212.ntmps = 15 := by kernel_rfl
theorem nt213 : Tryz.f213.ntmps = 119 := by kernel_rfl
theorem nt26 : Tryz.f26.ntmps = 13 := by kernel_rfl
theorem nt27 : Tryz.f27.ntmps = 38 := by kernel_rfl
theorem nt28 : Tryz.f28.ntmps = 9 := by kernel_rfl
theorem nt29 : Tryz.f29.ntmps = 20 := by kernel_rfl
theorem nt3 : Tryz.f3.ntmps = 32 := by kernel_rfl
theorem nt30 : Tryz.f30.ntmps = 82 := by kernel_rfl
theorem nt31 : Tryz.f31.ntmps = 20 := by kernel_rfl
theorem nt32 : Tryz.f32.ntmps = 187 := by kernel_rfl
theorem nt33 : Tryz.f33.ntmps = 9 := by kernel_rfl
theorem nt34 : Tryz.f34.ntmps = 13 := by kernel_rfl
theorem nt35 : Tryz.f35.ntmps = 77 := by kernel_rfl
theorem nt36 : Tryz.f36.ntmps = 21 := by kernel_rfl
theorem nt37 : Tryz.f37.ntmps = 14 := by kernel_rfl
theorem nt38 : Tryz.f38.ntmps = 26 := by kernel_rfl
theorem nt39 : Tryz.f39.ntmps = 38 := by kernel_rfl
theorem nt40 : Tryz.f40.ntmps = 227 := by kernel_rfl
theorem nt41 : Tryz.f41.ntmps = 9 := by kernel_rfl
theorem nt42 : Tryz.f42.ntmps = 2 := by kernel_rfl
theorem nt43 : Tryz.f43.ntmps = 13 := by kernel_rfl
theorem nt44 : Tryz.f44.ntmps = 9 := by kernel_rfl
theorem nt45 : Tryz.f45.ntmps = 15 := by kernel_rfl
theorem nt47 : Tryz.f47.ntmps = 8 := by kernel_rfl
theorem nt52 : Tryz.f52.ntmps = 150 := by kernel_rfl
theorem nt59 : Tryz.f59.ntmps = 102 := by kernel_rfl
theorem nt60 : Tryz.f60.ntmps = 17 := by kernel_rfl
theorem nt61 : Tryz.f61.ntmps = 45 := by kernel_rfl
theorem nt62 : Tryz.f62.ntmps = 65 := by kernel_rfl
theorem nt63 : Tryz.f63.ntmps = 24 := by kernel_rfl
theorem nt64 : Tryz.f64.ntmps = 28 := by kernel_rfl
theorem nt65 : Tryz.f65.ntmps = 24 := by kernel_rfl
theorem nt66 : Tryz.f66.ntmps = 14 := by kernel_rfl
theorem nt67 : Tryz.f67.ntmps = 7 := by kernel_rfl
theorem nt68 : Tryz.f68.ntmps = 16 := by kernel_rfl
theorem nt69 : Tryz.f69.ntmps = 20 := by kernel_rfl
theorem nt70 : Tryz.f70.ntmps = 19 := by kernel_rfl
theorem nt71 : Tryz.f71.ntmps = 34 := by kernel_rfl
theorem nt72 : Tryz.f72.ntmps = 77 := by kernel_rfl
theorem nt73 : Tryz.f73.ntmps = 50 := by kernel_rfl
theorem nt74 : Tryz.f74.ntmps = 51 := by kernel_rfl
theorem nt75 : Tryz.f75.ntmps = 17 := by kernel_rfl
theorem nt76 : Tryz.f76.ntmps = 111 := by kernel_rfl
theorem nt77 : Tryz.f77.ntmps = 27 := by kernel_rfl
theorem nt78 : Tryz.f78.ntmps = 19 := by kernel_rfl
theorem nt85 : Tryz.f85.ntmps = 127 := by kernel_rfl
theorem nt86 : Tryz.f86.ntmps = 15 := by kernel_rfl
theorem nt87 : Tryz.f87.ntmps = 33 := by kernel_rfl
theorem nt88 : Tryz.f88.ntmps = 6 := by kernel_rfl
theorem nt94 : Tryz.f94.ntmps = 13 := by kernel_rfl
theorem nt95 : Tryz.f95.ntmps = 20 := by kernel_rfl
theorem nt96 : Tryz.f96.ntmps = 9 := by kernel_rfl
theorem nt97 : Tryz.f97.ntmps = 9 := by kernel_rfl
theorem nt98 : Tryz.f98.ntmps = 17 := by kernel_rfl
theorem nt99 : Tryz.f99.ntmps = 8 := by kernel_rfl
theorem okt170 : okT Tryz.prog 170 = true := by kernel_rfl
theorem okt193 : okT Tryz.prog 193 = true := by kernel_rfl
theorem okt22 : okT Tryz.prog 22 = true := by kernel_rfl
theorem okt240 : okT Tryz.prog 240 = true := by kernel_rfl
theorem okt37 : okT Tryz.prog 37 = true := by kernel_rfl
theorem okt49 : okT Tryz.prog 49 = true := by kernel_rfl
theorem okt55 : okT Tryz.prog 55 = true := by kernel_rfl
theorem okt56 : okT Tryz.prog 56 = true := by kernel_rfl
theorem okt57 : okT Tryz.prog 57 = true := by kernel_rfl
theorem okt58 : okT Tryz.prog 58 = true := by kernel_rfl
theorem okt61 : okT Tryz.prog 61 = true := by kernel_rfl
theorem okt70 : okT Tryz.prog 70 = true := by kernel_rfl
theorem okt81 : okT Tryz.prog 81 = true := by kernel_rfl
theorem okt83 : okT Tryz.prog 83 = true := by kernel_rfl
theorem okt88 : okT Tryz.prog 88 = true := by kernel_rfl
theorem okt89 : okT Tryz.prog 89 = true := by kernel_rfl
theorem row170 : rowT Tryz.prog 170 = some (83, 1, [(.slice none 0 0)]) := by kernel_rfl
theorem row193 : rowT Tryz.prog 193 = some (196, 3, [(.slice none 0 0), (.int .i64 (0)), (.bool false)]) := by kernel_rfl
theorem row22 : rowT Tryz.prog 22 = some (67, 16, [(.int .i64 (0)), (.string ⟨#[]⟩), (.slice none 0 0), (.slice none 0 0), (.slice none 0 0), (.slice none 0 0), (.int .i64 (0)), (.slice none 0 0), (.bool false), (.int .i64 (0)), (.int .i64 (0)), (.int .i64 (0)), (.string ⟨#[]⟩), (.string ⟨#[]⟩), (.string ⟨#[]⟩), (.slice none 0 0)]) := by kernel_rfl
theorem row240 : rowT Tryz.prog 240 = some (212, 1, [.nilFunc]) := by kernel_rfl
theorem row37 : rowT Tryz.prog 37 = some (5, 1, [(.int .u8 (0))]) := by kernel_rfl
theorem row49 : rowT Tryz.prog 49 = some (113, 3, [(.int .i64 (0)), (.string ⟨#[]⟩), (.int .i64 (0))]) := by kernel_rfl
theorem row55 : rowT Tryz.prog 55 = some (80, 2, [(.string ⟨#[]⟩), (.int .i64 (0))]) := by kernel_rfl
theorem row56 : rowT Tryz.prog 56 = some (91, 21, [(.bool false), (.bool false), (.slice none 0 0), (.slice none 0 0), (.bool false), (.bool false), (.int .i64 (0)), (.int .i64 (0)), (.int .i64 (0)), (.string ⟨#[]⟩), (.string ⟨#[]⟩), (.string ⟨#[]⟩), (.slice none 0 0), (.int .i64 (0)), (.int .i64 (0)), (.int .i64 (0)), (.string ⟨#[]⟩), (.string ⟨#[]⟩), (.string ⟨#[]⟩), (.slice none 0 0), (.slice none 0 0)]) := by kernel_rfl
theorem row57 : rowT Tryz.prog 57 = some (3, 1, [(.int .i64 (0))]) := by kernel_rfl
theorem row58 : rowT Tryz.prog 58 = some (65, 7, [(.int .i64 (0)), (.int .i64 (0)), (.int .i64 (0)), (.string ⟨#[]⟩), (.string ⟨#[]⟩), (.string ⟨#[]⟩), (.slice none 0 0)]) := by kernel_rfl
theorem row61 : rowT Tryz.prog 61 = some (81, 1, [(.slice none 0 0)]) := by kernel_rfl
theorem row70 : rowT Tryz.prog 70 = some (123, 3, [(.int .u8 (0)), (.string ⟨#[]⟩), (.int .i64 (0))]) := by kernel_rfl
theorem row81 : rowT Tryz.prog 81 = some (63, 3, [(.int .i64 (0)), (.int .i64 (0)), (.string ⟨#[]⟩)]) := by kernel_rfl
theorem row83 : rowT Tryz.prog 83 = some (9, 1, [(.string ⟨#[]⟩)]) := by kernel_rfl
theorem row88 : rowT Tryz.prog 88 = some (87, 8, [(.int .i64 (0)), (.int .i64 (0)), (.int .i64 (0)), (.string ⟨#[]⟩), (.string ⟨#[]⟩), (.string ⟨#[]⟩), (.slice none 0 0), (.string ⟨#[]⟩)]) := by kernel_rfl
theorem row89 : rowT Tryz.prog 89 = some (129, 10, [(.int .i64 (0)), (.string ⟨#[]⟩), (.string ⟨#[]⟩), (.int .i64 (0)), (.int .i64 (0)), (.int .i64 (0)), (.string ⟨#[]⟩), (.string ⟨#[]⟩), (.string ⟨#[]⟩), (.slice none 0 0)]) := by kernel_rfl
theorem rs100 : Tryz.f100.results.toList = [.tmp 4] := by kernel_rfl
theorem rs101 : Tryz.f101.results.toList = [.cell 2 91] := by kernel_rfl
theorem rs102 : Tryz.f102.results.toList = [.tmp 2] := by kernel_rfl
theorem rs103 : Tryz.f103.results.toList = [.tmp 6] := by kernel_rfl
theorem rs104 : Tryz.f104.results.toList = [.tmp 2] := by kernel_rfl
theorem rs105 : Tryz.f105.results.toList = [.tmp 6] := by kernel_rfl
theorem rs106 : Tryz.f106.results.toList = [.cell 1 63] := by kernel_rfl
theorem rs107 : Tryz.f107.results.toList = [.cell 2 63, .tmp 3] := by kernel_rfl
theorem rs108 : Tryz.f108.results.toList = [.tmp 2] := by kernel_rfl
theorem rs109 : Tryz.f109.results.toList = [.cell 4 65] := by kernel_rfl
theorem rs11 : Tryz.f11.results.toList = [.cell 2 22, .cell 3 25] := by kernel_rfl
theorem rs110 : Tryz.f110.results.toList = [.tmp 4] := by kernel_rfl
theorem rs111 : Tryz.f111.results.toList = [.tmp 2] := by kernel_rfl
theorem rs112 : Tryz.f112.results.toList = [.cell 2 91] := by kernel_rfl
theorem rs113 : Tryz.f113.results.toList = [.tmp 2] := by kernel_rfl
theorem rs114 : Tryz.f114.results.toList = [.tmp 2] := by kernel_rfl
theorem rs115 : Tryz.f115.results.toList = [.cell 2 63, .tmp 3] := by kernel_rfl
theorem rs116 : Tryz.f116.results.toList = [.tmp 2] := by kernel_rfl
theorem rs117 : Tryz.f117.results.toList = [.cell 2 65] := by kernel_rfl
theorem rs118 : Tryz.f118.results.toList = [.tmp 2] := by kernel_rfl
theorem rs119 : Tryz.f119.results.toList = [.tmp 2] := by kernel_rfl
theorem rs12 : Tryz.f12.results.toList = [.tmp 2, .cell 3 25] := by kernel_rfl
theorem rs120 : Tryz.f120.results.toList = [.tmp 2] := by kernel_rfl
theorem rs13 : Tryz.f13.results.toList = [.tmp 4] := by kernel_rfl
theorem rs131 : Tryz.f131.results.toList = [.tmp 2] := by kernel_rfl
theorem rs132 : Tryz.f132.results.toList = [.tmp 6] := by kernel_rfl
theorem rs137 : Tryz.f137.results.toList = [.tmp 4] := by kernel_rfl
theorem rs138 : Tryz.f138.results.toList = [.tmp 6] := by kernel_rfl
theorem rs139 : Tryz.f139.results.toList = [.cell 2 87] := by kernel_rfl
theorem rs14 : Tryz.f14.results.toList = [.tmp 2] := by kernel_rfl
theorem rs140 : Tryz.f140.results.toList = [.cell 4 129] := by kernel_rfl
theorem rs141 : Tryz.f141.results.toList = [.tmp 2] := by kernel_rfl
theorem rs143 : Tryz.f143.results.toList = [] := by kernel_rfl
theorem rs144 : Tryz.f144.results.toList = [.tmp 0] := by kernel_rfl
theorem rs145 : Tryz.f145.results.toList = [.cell 2 65] := by kernel_rfl
theorem rs146 : Tryz.f146.results.toList = [.cell 4 65] := by kernel_rfl
theorem rs147 : Tryz.f147.results.toList = [.tmp 4] := by kernel_rfl
theorem rs148 : Tryz.f148.results.toList = [.cell 6 65] := by kernel_rfl
theorem rs149 : Tryz.f149.results.toList = [.cell 4 129] := by kernel_rfl
theorem rs15 : Tryz.f15.results.toList = [.tmp 2] := by kernel_rfl
theorem rs150 : Tryz.f150.results.toList = [.cell 2 65] := by kernel_rfl
theorem rs151 : Tryz.f151.results.toList = [.cell 6 65] := by kernel_rfl
theorem rs152 : Tryz.f152.results.toList = [.tmp 6] := by kernel_rfl
theorem rs153 : Tryz.f153.results.toList = [.tmp 2] := by kernel_rfl
theorem rs159 : Tryz.f159.results.toList = [.tmp 2] := by kernel_rfl
theorem rs160 : Tryz.f160.results.toList = [.tmp 2] := by kernel_rfl
theorem rs161 : Tryz.f161.results.toList = [.tmp 2] := by kernel_rfl
theorem rs162 : Tryz.f162.results.toList = [.tmp 2] := by kernel_rfl
theorem rs163 : Tryz.f163.results.toList = [.tmp 4] := by kernel_rfl
theorem rs164 : Tryz.f164.results.toList = [.tmp 2] := by kernel_rfl
theorem rs168 : Tryz.f168.results.toList = [.cell 2 65] := by kernel_rfl
theorem rs169 : Tryz.f169.results.toList = [.tmp 2] := by kernel_rfl
theorem rs170 : Tryz.f170.results.toList = [.tmp 4] := by kernel_rfl
theorem rs181 : Tryz.f181.results.toList = [.tmp 1] := by kernel_rfl
theorem rs182 : Tryz.f182.results.toList = [.tmp 1] := by kernel_rfl
theorem rs188 : Tryz.f188.results.toList = [.cell 2 65] := by kernel_rfl
theorem rs19 : Tryz.f19.results.toList = [.cell 2 25] := by kernel_rfl
theorem rs203 : Tryz.f203.results.toList = [.cell 2 65] := by kernel_rfl
theorem rs210 : Tryz.f210.results.toList = [.cell 2 65] := by kernel_rfl
theorem rs212 : Tryz.f212.results.toList = [.cell 2 65] := by kernel_rfl
theorem rs213 : Tryz.f213.results.toList = [.cell 2 65] := by kernel_rfl
theorem rs26 : Tryz.f26.results.toList = [] := by kernel_rfl
theorem rs27 : Tryz.f27.results.toList = [.tmp 2] := by kernel_rfl
theorem rs28 : Tryz.f28.results.toList = [] := by kernel_rfl
theorem rs29 : Tryz.f29.results.toList = [.tmp 2] := by kernel_rfl
theorem rs3 : Tryz.f3.results.toList = [.tmp 2] := by kernel_rfl
theorem rs30 : Tryz.f30.results.toList = [.cell 2 67] := by kernel_rfl
theorem rs31 : Tryz.f31.results.toList = [] := by kernel_rfl
theorem rs32 : Tryz.f32.results.toList = [.tmp 2, .cell 3 25] := by kernel_rfl
theorem rs33 : Tryz.f33.results.toList = [.tmp 2] := by kernel_rfl
theorem rs34 : Tryz.f34.results.toList = [] := by kernel_rfl
theorem rs35 : Tryz.f35.results.toList = [.cell 2 67] := by kernel_rfl
theorem rs36 : Tryz.f36.results.toList = [] := by kernel_rfl
theorem rs37 : Tryz.f37.results.toList = [] := by kernel_rfl
theorem rs38 : Tryz.f38.results.toList = [.cell 2 25] := by kernel_rfl
theorem rs39 : Tryz.f39.results.toList = [.tmp 4] := by kernel_rfl
theorem rs40 : Tryz.f40.results.toList = [.tmp 4] := by kernel_rfl
theorem rs41 : Tryz.f41.results.toList = [.tmp 4] := by kernel_rfl
theorem rs42 : Tryz.f42.results.toList = [.tmp 0] := by kernel_rfl
theorem rs43 : Tryz.f43.results.toList = [.tmp 2] := by kernel_rfl
theorem rs44 : Tryz.f44.results.toList = [.tmp 2] := by kernel_rfl
theorem rs45 : Tryz.f45.results.toList = [.tmp 2] := by kernel_rfl
theorem rs47 : Tryz.f47.results.toList = [.tmp 2] := by kernel_rfl
theorem rs52 : Tryz.f52.results.toList = [.tmp 2] := by kernel_rfl
theorem rs59 : Tryz.f59.results.toList = [.cell 4 113, .tmp 5] := by kernel_rfl
theorem rs60 : Tryz.f60.results.toList = [.tmp 4] := by kernel_rfl
theorem rs61 : Tryz.f61.results.toList = [.tmp 2] := by kernel_rfl
theorem rs62 : Tryz.f62.results.toList = [.cell 2 60] := by kernel_rfl
theorem rs63 : Tryz.f63.results.toList = [.tmp 6] := by kernel_rfl
theorem rs64 : Tryz.f64.results.toList = [.cell 2 80] := by kernel_rfl
theorem rs65 : Tryz.f65.results.toList = [.tmp 6] := by kernel_rfl
theorem rs66 : Tryz.f66.results.toList = [.tmp 2] := by kernel_rfl
theorem rs67 : Tryz.f67.results.toList = [.cell 2 65] := by kernel_rfl
theorem rs68 : Tryz.f68.results.toList = [.tmp 2] := by kernel_rfl
theorem rs69 : Tryz.f69.results.toList = [.tmp 2] := by kernel_rfl
theorem rs70 : Tryz.f70.results.toList = [.tmp 4] := by kernel_rfl
theorem rs71 : Tryz.f71.results.toList = [.tmp 2] := by kernel_rfl
theorem rs72 : Tryz.f72.results.toList = [.cell 2 60] := by kernel_rfl
theorem rs73 : Tryz.f73.results.toList = [.tmp 2] := by kernel_rfl
theorem rs74 : Tryz.f74.results.toList = [.tmp 2] := by kernel_rfl
theorem rs75 : Tryz.f75.results.toList = [.cell 2 65] := by kernel_rfl
theorem rs76 : Tryz.f76.results.toList = [.tmp 2] := by kernel_rfl
theorem rs77 : Tryz.f77.results.toList = [.tmp 4] := by kernel_rfl
theorem rs78 : Tryz.f78.results.toList = [.tmp 4] := by kernel_rfl
theorem rs85 : Tryz.f85.results.toList = [.tmp 2] := by kernel_rfl
theorem rs86 : Tryz.f86.results.toList = [.tmp 2] := by kernel_rfl
theorem rs87 : Tryz.f87.results.toList = [.tmp 2] := by kernel_rfl
theorem rs88 : Tryz.f88.results.toList = [.tmp 2] := by kernel_rfl
theorem rs94 : Tryz.f94.results.toList = [.tmp 2] := by kernel_rfl
theorem rs95 : Tryz.f95.results.toList = [.tmp 4] := by kernel_rfl
theorem rs96 : Tryz.f96.results.toList = [.tmp 2] := by kernel_rfl
theorem rs97 : Tryz.f97.results.toList = [.tmp 2] := by kernel_rfl
theorem rs98 : Tryz.f98.results.toList = [.tmp 4] := by kernel_rfl
theorem rs99 : Tryz.f99.results.toList = [.tmp 4] := by kernel_rfl
theorem tk113 : tk Tryz.prog 113 = some (true, 3, (.agg #[(.int .i64 (0)), (.string ⟨#[]⟩), (.int .i64 (0))])) := by kernel_rfl
theorem tk129 : tk Tryz.prog 129 = some (true, 10, (.agg #[(.int .i64 (0)), (.string ⟨#[]⟩), (.string ⟨#[]⟩), (.int .i64 (0)), (.int .i64 (0)), (.int .i64 (0)), (.string ⟨#[]⟩), (.string ⟨#[]⟩), (.string ⟨#[]⟩), (.slice none 0 0)])) := by kernel_rfl
theorem tk172 : tk Tryz.prog 172 = some (false, 1, (.pointer none)) := by kernel_rfl
theorem tk196 : tk Tryz.prog 196 = some (true, 3, (.agg #[(.slice none 0 0), (.int .i64 (0)), (.bool false)])) := by kernel_rfl
theorem tk2 : tk Tryz.prog 2 = some (false, 1, (.int .i64 (0))) := by kernel_rfl
theorem tk209 : tk Tryz.prog 209 = some (false, 1, (.pointer none)) := by kernel_rfl
theorem tk212 : tk Tryz.prog 212 = some (false, 1, .nilFunc) := by kernel_rfl
theorem tk22 : tk Tryz.prog 22 = some (false, 1, (.slice none 0 0)) := by kernel_rfl
theorem tk23 : tk Tryz.prog 23 = some (false, 1, (.int .i64 (0))) := by kernel_rfl
theorem tk25 : tk Tryz.prog 25 = some (true, 2, (.agg #[(.int .i64 (0)), (.int .i64 (0))])) := by kernel_rfl
theorem tk3 : tk Tryz.prog 3 = some (false, 1, (.int .i64 (0))) := by kernel_rfl
theorem tk37 : tk Tryz.prog 37 = some (false, 1, (.slice none 0 0)) := by kernel_rfl
theorem tk4 : tk Tryz.prog 4 = some (false, 1, (.bool false)) := by kernel_rfl
theorem tk47 : tk Tryz.prog 47 = some (true, 2, (.agg #[(.int .i64 (0)), (.int .i64 (0))])) := by kernel_rfl
theorem tk48 : tk Tryz.prog 48 = some (false, 1, (.pointer none)) := by kernel_rfl
theorem tk49 : tk Tryz.prog 49 = some (false, 1, (.slice none 0 0)) := by kernel_rfl
theorem tk5 : tk Tryz.prog 5 = some (false, 1, (.int .u8 (0))) := by kernel_rfl
theorem tk55 : tk Tryz.prog 55 = some (false, 1, (.slice none 0 0)) := by kernel_rfl
theorem tk56 : tk Tryz.prog 56 = some (false, 1, (.slice none 0 0)) := by kernel_rfl
theorem tk57 : tk Tryz.prog 57 = some (false, 1, (.slice none 0 0)) := by kernel_rfl
theorem tk58 : tk Tryz.prog 58 = some (false, 1, (.slice none 0 0)) := by kernel_rfl
theorem tk60 : tk Tryz.prog 60 = some (true, 4, (.agg #[(.slice none 0 0), (.slice none 0 0), (.slice none 0 0), (.int .i64 (0))])) := by kernel_rfl
theorem tk61 : tk Tryz.prog 61 = some (false, 1, (.slice none 0 0)) := by kernel_rfl
theorem tk63 : tk Tryz.prog 63 = some (true, 3, (.agg #[(.int .i64 (0)), (.int .i64 (0)), (.string ⟨#[]⟩)])) := by kernel_rfl
theorem tk65 : tk Tryz.prog 65 = some (true, 7, (.agg #[(.int .i64 (0)), (.int .i64 (0)), (.int .i64 (0)), (.string ⟨#[]⟩), (.string ⟨#[]⟩), (.string ⟨#[]⟩), (.slice none 0 0)])) := by kernel_rfl
theorem tk67 : tk Tryz.prog 67 = some (true, 16, (.agg #[(.int .i64 (0)), (.string ⟨#[]⟩), (.slice none 0 0), (.slice none 0 0), (.slice none 0 0), (.slice none 0 0), (.int .i64 (0)), (.slice none 0 0), (.bool false), (.int .i64 (0)), (.int .i64 (0)), (.int .i64 (0)), (.string ⟨#[]⟩), (.string ⟨#[]⟩), (.string ⟨#[]⟩), (.slice none 0 0)])) := by kernel_rfl
theorem tk70 : tk Tryz.prog 70 = some (false, 1, (.slice none 0 0)) := by kernel_rfl
theorem tk80 : tk Tryz.prog 80 = some (true, 2, (.agg #[(.string ⟨#[]⟩), (.int .i64 (0))])) := by kernel_rfl
theorem tk81 : tk Tryz.prog 81 = some (false, 1, (.slice none 0 0)) := by kernel_rfl
theorem tk83 : tk Tryz.prog 83 = some (false, 1, (.slice none 0 0)) := by kernel_rfl
theorem tk87 : tk Tryz.prog 87 = some (true, 8, (.agg #[(.int .i64 (0)), (.int .i64 (0)), (.int .i64 (0)), (.string ⟨#[]⟩), (.string ⟨#[]⟩), (.string ⟨#[]⟩), (.slice none 0 0), (.string ⟨#[]⟩)])) := by kernel_rfl
theorem tk88 : tk Tryz.prog 88 = some (false, 1, (.slice none 0 0)) := by kernel_rfl
theorem tk89 : tk Tryz.prog 89 = some (false, 1, (.slice none 0 0)) := by kernel_rfl
theorem tk9 : tk Tryz.prog 9 = some (false, 1, (.string ⟨#[]⟩)) := by kernel_rfl
theorem tk91 : tk Tryz.prog 91 = some (true, 21, (.agg #[(.bool false), (.bool false), (.slice none 0 0), (.slice none 0 0), (.bool false), (.bool false), (.int .i64 (0)), (.int .i64 (0)), (.int .i64 (0)), (.string ⟨#[]⟩), (.string ⟨#[]⟩), (.string ⟨#[]⟩), (.slice none 0 0), (.int .i64 (0)), (.int .i64 (0)), (.int .i64 (0)), (.string ⟨#[]⟩), (.string ⟨#[]⟩), (.string ⟨#[]⟩), (.slice none 0 0), (.slice none 0 0)])) := by kernel_rfl
theorem tk95 : tk Tryz.prog 95 = some (true, 2, (.agg #[(.pointer none), (.slice none 0 0)])) := by kernel_rfl
def dr3 : List (Nat × Sched) := []
def dr4 : List (Nat × Sched) := []
def dr5 : List (Nat × Sched) := []
def dr6 : List (Nat × Sched) := []
def dr7 : List (Nat × Sched) := []
def dr8 : List (Nat × Sched) := []
def dr9 : List (Nat × Sched) := [(14, .take 0 <| .take 1 <| .take 2 <| .take 3 <| .take 4 <| .take 5 <| .take 6 <| .take 7 <| .take 9 <| .take 10 <| .take 12 <| .take 13 <| .take 14 <| .take 15 <| .take 17 <| .take 18 <| .take 8 <| .take 11 <| .take 16 <| .take 19 <| .take 20 <| .eff 21 true (.take 22 <| .eff 23 true (.done) <| .no) <| .no)]
def dr10 : List (Nat × Sched) := []
def dr11 : List (Nat × Sched) := [(6, .take 1 <| .take 0 <| .eff 2 false (.eff 3 false (.eff 4 true (.eff 5 true (.done) <| .no) <| .no) <| .no) <| .no), (10, .take 0 <| .take 1 <| .take 2 <| .eff 3 false (.eff 4 true (.done) <| .no) <| .no), (11, .take 0 <| .take 1 <| .eff 2 false (.eff 3 true (.done) <| .no) <| .no)]
def dr12 : List (Nat × Sched) := [(3, .take 1 <| .take 0 <| .eff 2 true (.done) <| .no), (13, .take 0 <| .take 1 <| .take 2 <| .take 4 <| .take 3 <| .eff 5 true (.done) <| .no)]
def dr13 : List (Nat × Sched) := [(6, .take 0 <| .take 1 <| .take 2 <| .take 4 <| .take 5 <| .take 6 <| .take 3 <| .take 7 <| .eff 8 false (.eff 9 false (.eff 10 false (.eff 11 true (.done) <| .no) <| .no) <| .no) <| .eff 9 false (.eff 8 false (.eff 10 false (.eff 11 true (.done) <| .no) <| .no) <| .no) <| .no), (12, .take 0 <| .take 2 <| .take 5 <| .take 7 <| .take 1 <| .take 3 <| .take 4 <| .take 6 <| .take 8 <| .take 9 <| .take 10 <| .done), (18, .take 0 <| .take 2 <| .take 6 <| .take 8 <| .take 1 <| .take 3 <| .take 4 <| .take 5 <| .take 7 <| .take 9 <| .take 10 <| .take 11 <| .take 12 <| .done), (23, .take 0 <| .take 2 <| .take 5 <| .take 8 <| .take 10 <| .take 13 <| .take 1 <| .take 3 <| .take 4 <| .take 6 <| .take 7 <| .take 9 <| .take 11 <| .take 12 <| .take 14 <| .take 15 <| .take 16 <| .done)]
def dr14 : List (Nat × Sched) := []
def dr15 : List (Nat × Sched) := []
def dr16 : List (Nat × Sched) := []
def dr17 : List (Nat × Sched) := [(3, .take 1 <| .take 0 <| .eff 2 true (.done) <| .no)]
def dr18 : List (Nat × Sched) := []
def dr19 : List (Nat × Sched) := []
def dr20 : List (Nat × Sched) := []
def dr21 : List (Nat × Sched) := [(7, .take 0 <| .take 2 <| .take 4 <| .take 1 <| .take 3 <| .eff 5 true (.done) <| .no)]
def dr22 : List (Nat × Sched) := [(6, .take 0 <| .take 1 <| .take 2 <| .take 4 <| .take 5 <| .take 6 <| .take 3 <| .take 7 <| .take 8 <| .done)]
def dr23 : List (Nat × Sched) := []
def dr24 : List (Nat × Sched) := [(6, .take 0 <| .take 1 <| .take 2 <| .take 6 <| .take 7 <| .take 8 <| .take 9 <| .take 3 <| .take 4 <| .take 5 <| .take 10 <| .take 11 <| .take 12 <| .take 13 <| .done), (8, .take 0 <| .take 1 <| .take 2 <| .take 3 <| .take 4 <| .take 5 <| .take 6 <| .take 7 <| .take 8 <| .take 9 <| .take 11 <| .take 12 <| .take 13 <| .take 14 <| .take 18 <| .take 19 <| .take 20 <| .take 21 <| .take 15 <| .take 16 <| .take 17 <| .take 22 <| .take 23 <| .take 24 <| .eff 10 false (.take 25 <| .take 26 <| .done) <| .no)]
def dr25 : List (Nat × Sched) := []
def dr26 : List (Nat × Sched) := [(7, .take 0 <| .take 1 <| .eff 2 false (.eff 3 true (.done) <| .no) <| .no)]
def dr27 : List (Nat × Sched) := []
def dr28 : List (Nat × Sched) := []
def dr29 : List (Nat × Sched) := []
def dr30 : List (Nat × Sched) := []
def dr31 : List (Nat × Sched) := []
def dr32 : List (Nat × Sched) := []
def dr33 : List (Nat × Sched) := []
def dr34 : List (Nat × Sched) := []
def dr35 : List (Nat × Sched) := []
def dr36 : List (Nat × Sched) := []
def dr37 : List (Nat × Sched) := []
def dr38 : List (Nat × Sched) := []
def dr39 : List (Nat × Sched) := []
def dr40 : List (Nat × Sched) := [(6, .take 0 <| .take 2 <| .take 5 <| .take 7 <| .take 1 <| .take 3 <| .take 4 <| .take 6 <| .take 8 <| .take 9 <| .take 10 <| .done), (12, .take 0 <| .take 2 <| .take 5 <| .take 7 <| .take 1 <| .take 3 <| .take 4 <| .take 6 <| .take 8 <| .take 9 <| .eff 10 false (.eff 11 false (.eff 12 false (.eff 13 true (.done) <| .no) <| .no) <| .no) <| .eff 11 false (.eff 10 false (.eff 12 false (.eff 13 true (.done) <| .no) <| .no) <| .no) <| .no), (18, .take 0 <| .take 2 <| .take 6 <| .take 8 <| .take 1 <| .take 3 <| .take 4 <| .take 5 <| .take 7 <| .take 9 <| .take 10 <| .take 11 <| .take 12 <| .take 13 <| .take 14 <| .take 16 <| .take 20 <| .take 22 <| .take 15 <| .take 17 <| .take 18 <| .take 19 <| .take 21 <| .take 23 <| .take 24 <| .take 25 <| .eff 26 false (.take 27 <| .take 28 <| .done) <| .no), (24, .take 0 <| .take 2 <| .take 5 <| .take 7 <| .take 1 <| .take 3 <| .take 4 <| .take 6 <| .take 8 <| .take 9 <| .eff 10 false (.eff 11 false (.eff 12 false (.eff 13 true (.done) <| .no) <| .no) <| .no) <| .eff 11 false (.eff 10 false (.eff 12 false (.eff 13 true (.done) <| .no) <| .no) <| .no) <| .no)]
def dr41 : List (Nat × Sched) := []
def dr42 : List (Nat × Sched) := []
def dr43 : List (Nat × Sched) := []
def dr44 : List (Nat × Sched) := []
def dr45 : List (Nat × Sched) := []
def dr46 : List (Nat × Sched) := [(8, .take 0 <| .take 1 <| .take 4 <| .take 2 <| .take 5 <| .take 6 <| .effN 3 false (.take 7 <| .take 8 <| .eff 9 false (.eff 10 false (.done) <| .no) <| .no) <| .no)]
def dr47 : List (Nat × Sched) := []
def dr49 : List (Nat × Sched) := []
def dr50 : List (Nat × Sched) := [(5, .take 0 <| .take 2 <| .take 1 <| .take 4 <| .take 3 <| .eff 5 false (.take 6 <| .eff 7 true (.done) <| .no) <| .no), (9, .take 0 <| .take 1 <| .take 2 <| .eff 3 false (.eff 4 false (.eff 5 false (.take 6 <| .eff 7 true (.done) <| .no) <| .no) <| .no) <| .no)]
def dr51 : List (Nat × Sched) := [(3, .take 0 <| .take 2 <| .take 1 <| .take 5 <| .take 3 <| .eff 4 false (.eff 6 false (.take 7 <| .eff 8 true (.done) <| .no) <| .no) <| .no), (7, .take 0 <| .take 2 <| .take 4 <| .take 6 <| .take 8 <| .take 1 <| .take 3 <| .take 5 <| .take 7 <| .take 9 <| .eff 10 false (.take 11 <| .eff 12 false (.eff 13 true (.done) <| .no) <| .no) <| .eff 12 false (.eff 10 false (.take 11 <| .eff 13 true (.done) <| .no) <| .no) <| .no), (12, .take 0 <| .take 2 <| .take 5 <| .take 1 <| .take 3 <| .take 6 <| .eff 4 false (.take 7 <| .eff 8 false (.eff 9 false (.take 10 <| .eff 11 true (.done) <| .no) <| .no) <| .no) <| .no)]
def dr52 : List (Nat × Sched) := []
def dr53 : List (Nat × Sched) := [(3, .take 0 <| .take 2 <| .take 1 <| .take 3 <| .done)]
def dr54 : List (Nat × Sched) := [(3, .take 1 <| .take 0 <| .eff 2 true (.done) <| .no), (17, .take 0 <| .take 1 <| .take 5 <| .take 2 <| .take 3 <| .take 6 <| .take 7 <| .eff 4 false (.take 8 <| .take 9 <| .take 10 <| .take 11 <| .done) <| .no), (21, .take 0 <| .take 1 <| .take 2 <| .take 6 <| .take 3 <| .take 4 <| .take 5 <| .take 7 <| .eff 8 false (.take 9 <| .take 10 <| .done) <| .no)]
def dr55 : List (Nat × Sched) := []
def dr56 : List (Nat × Sched) := [(3, .take 0 <| .take 1 <| .take 5 <| .take 6 <| .take 2 <| .take 3 <| .take 4 <| .take 7 <| .take 8 <| .take 9 <| .take 10 <| .done), (4, .take 0 <| .take 1 <| .take 2 <| .take 3 <| .take 4 <| .take 5 <| .take 6 <| .take 7 <| .take 8 <| .take 9 <| .take 11 <| .take 12 <| .take 13 <| .take 14 <| .take 18 <| .take 19 <| .take 20 <| .take 21 <| .take 15 <| .take 16 <| .take 17 <| .take 22 <| .take 23 <| .take 24 <| .eff 10 false (.take 25 <| .take 26 <| .done) <| .no)]
def dr57 : List (Nat × Sched) := []
def dr58 : List (Nat × Sched) := []
def dr59 : List (Nat × Sched) := []
def dr60 : List (Nat × Sched) := []
def dr61 : List (Nat × Sched) := []
def dr62 : List (Nat × Sched) := [(7, .take 0 <| .take 2 <| .take 5 <| .take 7 <| .take 1 <| .take 6 <| .eff 3 false (.eff 4 false (.take 11 <| .eff 8 false (.eff 9 false (.eff 10 false (.eff 12 true (.take 13 <| .eff 14 true (.done) <| .no) <| .no) <| .no) <| .no) <| .no) <| .no) <| .no)]
def dr63 : List (Nat × Sched) := []
def dr64 : List (Nat × Sched) := []
def dr65 : List (Nat × Sched) := []
def dr66 : List (Nat × Sched) := []
def dr67 : List (Nat × Sched) := []
def dr68 : List (Nat × Sched) := []
def dr69 : List (Nat × Sched) := []
def dr70 : List (Nat × Sched) := []
def dr71 : List (Nat × Sched) := []
def dr72 : List (Nat × Sched) := [(11, .take 0 <| .take 2 <| .take 1 <| .eff 3 false (.eff 4 false (.eff 5 true (.take 6 <| .eff 7 true (.done) <| .no) <| .no) <| .no) <| .no)]
def dr73 : List (Nat × Sched) := []
def dr74 : List (Nat × Sched) := []
def dr75 : List (Nat × Sched) := []
def dr76 : List (Nat × Sched) := []
def dr77 : List (Nat × Sched) := [(6, .take 0 <| .take 1 <| .take 2 <| .take 4 <| .take 5 <| .take 6 <| .take 3 <| .take 7 <| .eff 8 true (.take 9 <| .done) <| .no)]
def dr78 : List (Nat × Sched) := []
def dr80 : List (Nat × Sched) := []
def dr81 : List (Nat × Sched) := []
def dr82 : List (Nat × Sched) := []
def dr83 : List (Nat × Sched) := []
def dr84 : List (Nat × Sched) := []
def dr85 : List (Nat × Sched) := [(1, .take 0 <| .take 1 <| .take 2 <| .take 3 <| .take 4 <| .take 5 <| .take 6 <| .take 7 <| .take 8 <| .take 9 <| .take 10 <| .take 11 <| .take 12 <| .take 13 <| .take 14 <| .take 15 <| .take 16 <| .take 17 <| .take 20 <| .take 21 <| .take 22 <| .take 18 <| .take 19 <| .take 23 <| .take 24 <| .take 25 <| .take 26 <| .take 27 <| .take 28 <| .take 29 <| .take 30 <| .take 31 <| .take 32 <| .take 33 <| .take 34 <| .take 35 <| .take 36 <| .take 37 <| .take 38 <| .take 39 <| .take 40 <| .take 41 <| .take 42 <| .take 43 <| .take 44 <| .take 45 <| .take 46 <| .take 47 <| .take 48 <| .take 49 <| .take 50 <| .done)]
def dr86 : List (Nat × Sched) := []
def dr87 : List (Nat × Sched) := []
def dr88 : List (Nat × Sched) := []
def dr89 : List (Nat × Sched) := []
def dr90 : List (Nat × Sched) := [(24, .take 0 <| .take 2 <| .take 8 <| .take 3 <| .take 4 <| .take 9 <| .eff 1 false (.take 5 <| .take 6 <| .take 7 <| .take 10 <| .take 11 <| .take 12 <| .done) <| .no), (38, .take 0 <| .take 1 <| .take 2 <| .take 7 <| .take 3 <| .take 8 <| .eff 4 false (.take 5 <| .take 6 <| .eff 9 false (.take 10 <| .take 11 <| .take 12 <| .done) <| .no) <| .no)]
def dr91 : List (Nat × Sched) := []
def dr92 : List (Nat × Sched) := [(28, .take 0 <| .take 7 <| .take 14 <| .take 1 <| .take 2 <| .take 3 <| .take 8 <| .take 9 <| .take 10 <| .take 15 <| .take 16 <| .take 17 <| .eff 4 false (.take 5 <| .take 6 <| .eff 11 false (.take 12 <| .take 13 <| .eff 18 false (.take 19 <| .take 20 <| .eff 21 true (.done) <| .no) <| .no) <| .no) <| .no)]
def dr93 : List (Nat × Sched) := []
def dr94 : List (Nat × Sched) := []
def dr95 : List (Nat × Sched) := []
def dr96 : List (Nat × Sched) := []
def dr97 : List (Nat × Sched) := []
def dr98 : List (Nat × Sched) := []
def dr99 : List (Nat × Sched) := []
def dr100 : List (Nat × Sched) := []
def dr101 : List (Nat × Sched) := [(13, .take 0 <| .take 2 <| .take 3 <| .take 1 <| .eff 4 false (.eff 5 false (.eff 6 true (.take 7 <| .eff 8 true (.done) <| .no) <| .no) <| .no) <| .no)]
def dr102 : List (Nat × Sched) := []
def dr103 : List (Nat × Sched) := []
def dr104 : List (Nat × Sched) := []
def dr105 : List (Nat × Sched) := []
def dr106 : List (Nat × Sched) := []
def dr107 : List (Nat × Sched) := []
def dr108 : List (Nat × Sched) := []
def dr109 : List (Nat × Sched) := [(20, .take 0 <| .take 1 <| .take 2 <| .take 3 <| .take 5 <| .take 8 <| .take 9 <| .take 10 <| .take 4 <| .take 6 <| .take 7 <| .eff 11 false (.eff 12 false (.eff 13 true (.done) <| .no) <| .no) <| .no)]
def dr110 : List (Nat × Sched) := []
def dr111 : List (Nat × Sched) := []
def dr112 : List (Nat × Sched) := [(26, .take 0 <| .take 2 <| .take 3 <| .take 1 <| .eff 4 false (.eff 5 false (.eff 6 true (.take 7 <| .eff 8 true (.done) <| .no) <| .no) <| .no) <| .no)]
def dr113 : List (Nat × Sched) := []
def dr114 : List (Nat × Sched) := []
def dr115 : List (Nat × Sched) := []
def dr116 : List (Nat × Sched) := []
def dr117 : List (Nat × Sched) := []
def dr118 : List (Nat × Sched) := []
def dr119 : List (Nat × Sched) := []
def dr120 : List (Nat × Sched) := []
def dr123 : List (Nat × Sched) := []
def dr124 : List (Nat × Sched) := []
def dr125 : List (Nat × Sched) := []
def dr130 : List (Nat × Sched) := [(11, .take 0 <| .take 1 <| .take 2 <| .take 4 <| .take 7 <| .take 3 <| .take 5 <| .take 6 <| .take 8 <| .done)]
def dr131 : List (Nat × Sched) := []
def dr132 : List (Nat × Sched) := []
def dr133 : List (Nat × Sched) := []
def dr134 : List (Nat × Sched) := [(1, .take 0 <| .take 4 <| .take 6 <| .take 9 <| .take 13 <| .take 14 <| .take 1 <| .take 2 <| .take 3 <| .take 10 <| .take 11 <| .take 12 <| .eff 5 false (.take 7 <| .take 8 <| .eff 15 false (.take 16 <| .eff 17 true (.done) <| .no) <| .no) <| .no)]
def dr137 : List (Nat × Sched) := []
def dr138 : List (Nat × Sched) := []
def dr139 : List (Nat × Sched) := []
def dr140 : List (Nat × Sched) := []
def dr141 : List (Nat × Sched) := []
def dr143 : List (Nat × Sched) := []
def dr144 : List (Nat × Sched) := []
def dr145 : List (Nat × Sched) := [(12, .take 0 <| .take 2 <| .take 1 <| .eff 3 false (.eff 4 false (.eff 5 true (.take 6 <| .eff 7 true (.done) <| .no) <| .no) <| .no) <| .no), (14, .take 0 <| .take 2 <| .take 1 <| .eff 3 false (.eff 4 false (.eff 5 true (.take 6 <| .eff 7 true (.done) <| .no) <| .no) <| .no) <| .no)]
def dr146 : List (Nat × Sched) := []
def dr147 : List (Nat × Sched) := []
def dr148 : List (Nat × Sched) := []
def dr149 : List (Nat × Sched) := []
def dr150 : List (Nat × Sched) := []
def dr151 : List (Nat × Sched) := []
def dr152 : List (Nat × Sched) := []
def dr153 : List (Nat × Sched) := []
def dr159 : List (Nat × Sched) := []
def dr160 : List (Nat × Sched) := [(1, .take 0 <| .take 1 <| .take 2 <| .take 3 <| .take 4 <| .take 5 <| .take 6 <| .take 7 <| .eff 8 false (.take 9 <| .done) <| .no)]
def dr161 : List (Nat × Sched) := [(1, .take 0 <| .take 1 <| .take 2 <| .take 3 <| .take 4 <| .take 5 <| .take 6 <| .take 7 <| .eff 8 false (.take 9 <| .done) <| .no)]
def dr162 : List (Nat × Sched) := []
def dr163 : List (Nat × Sched) := []
def dr164 : List (Nat × Sched) := []
def dr168 : List (Nat × Sched) := []
def dr169 : List (Nat × Sched) := []
def dr170 : List (Nat × Sched) := []
def dr181 : List (Nat × Sched) := []
def dr182 : List (Nat × Sched) := []
def dr188 : List (Nat × Sched) := []
def dr203 : List (Nat × Sched) := []
def dr210 : List (Nat × Sched) := []
def dr212 : List (Nat × Sched) := []
def dr213 : List (Nat × Sched) := []
attribute [go_sem] mx b2s37_9 bt113 bt123 bt129 bt184 bt196 bt25 bt47 bt52 bt60 bt63 bt65 bt67 bt75 bt80 bt87 bt91 bt97 cv144_5 cv3_5 cv5_144 cv5_2 cv5_3 cvk144_5 cvk37_37 cvk37_9 cvk3_5 cvk5_144 cvk5_2 cvk5_3 cvk9_37 el170 el193 el22 el240 el37 el49 el55 el56 el57 el58 el61 el70 el81 el83 el88 el89 fd25_0 fo113_0 fo113_1 fo113_2 fo123_0 fo123_1 fo123_2 fo129_0 fo129_1 fo129_2 fo129_3 fo184_0 fo196_0 fo196_1 fo196_2 fo25_0 fo47_0 fo52_0 fo52_1 fo52_2 fo60_0 fo60_1 fo60_2 fo60_3 fo63_0 fo63_1 fo63_2 fo65_0 fo65_1 fo65_2 fo65_3 fo65_4 fo67_0 fo67_1 fo67_2 fo67_3 fo67_4 fo67_5 fo67_6 fo75_0 fo75_1 fo75_2 fo75_3 fo80_0 fo80_1 fo87_0 fo87_1 fo91_0 fo91_1 fo91_2 fo91_3 fo91_4 fo91_5 fo91_6 fo91_7 fo91_8 fo95_1 fo97_0 ibl4 isl193 isl22 isl240 isl37 isl49 isl55 isl56 isl57 isl58 isl61 isl70 isl81 isl83 isl88 isl89 isl9 ist193 ist22 ist240 ist37 ist49 ist55 ist56 ist57 ist58 ist61 ist70 ist81 ist83 ist88 ist89 ist9 mt180 okt170 okt193 okt22 okt240 okt37 okt49 okt55 okt56 okt57 okt58 okt61 okt70 okt81 okt83 okt88 okt89 row170 row193 row22 row240 row37 row49 row55 row56 row57 row58 row61 row70 row81 row83 row88 row89 tk113 tk129 tk172 tk196 tk2 tk209 tk212 tk22 tk23 tk25 tk3 tk37 tk4 tk47 tk48 tk49 tk5 tk55 tk56 tk57 tk58 tk60 tk61 tk63 tk65 tk67 tk70 tk80 tk81 tk83 tk87 tk88 tk89 tk9 tk91 tk95 dr3 dr4 dr5 dr6 dr7 dr8 dr9 dr10 dr11 dr12 dr13 dr14 dr15 dr16 dr17 dr18 dr19 dr20 dr21 dr22 dr23 dr24 dr25 dr26 dr27 dr28 dr29 dr30 dr31 dr32 dr33 dr34 dr35 dr36 dr37 dr38 dr39 dr40 dr41 dr42 dr43 dr44 dr45 dr46 dr47 dr49 dr50 dr51 dr52 dr53 dr54 dr55 dr56 dr57 dr58 dr59 dr60 dr61 dr62 dr63 dr64 dr65 dr66 dr67 dr68 dr69 dr70 dr71 dr72 dr73 dr74 dr75 dr76 dr77 dr78 dr80 dr81 dr82 dr83 dr84 dr85 dr86 dr87 dr88 dr89 dr90 dr91 dr92 dr93 dr94 dr95 dr96 dr97 dr98 dr99 dr100 dr101 dr102 dr103 dr104 dr105 dr106 dr107 dr108 dr109 dr110 dr111 dr112 dr113 dr114 dr115 dr116 dr117 dr118 dr119 dr120 dr123 dr124 dr125 dr130 dr131 dr132 dr133 dr134 dr137 dr138 dr139 dr140 dr141 dr143 dr144 dr145 dr146 dr147 dr148 dr149 dr150 dr151 dr152 dr153 dr159 dr160 dr161 dr162 dr163 dr164 dr168 dr169 dr170 dr181 dr182 dr188 dr203 dr210 dr212 dr213
attribute [go_sem ↓] conc47
end Go.Proofs.YtoainkbcfnlkcaaGreatDoor

