import Derived.Test.YtmeeifechggoeaaGreatDoorProg
import Derived.Test.YtmeeifechggoeaaGreatDoorB
import Derived.Shelf.Strings.Builder1
import Derived.Shelf.Small.Strs
import Derived.Shelf.Strconv.Itoa0
import Derived.Shelf.Strconv.Itoa1
import Derived.Shelf.LaysM
import Derived.Shelf.Strconv.Itoa2
import Derived.Shelf.Strconv.Itoa3
import Derived.Shelf.Strconv.ParseIntEmpty
import Derived.Shelf.Strconv.Clone
import Derived.Shelf.Strconv.SyntaxError
import Derived.Shelf.LaysC
import Derived.Shelf.Strconv.ToError
import Derived.Shelf.Strconv.Lower
import Derived.Shelf.Strconv.ParseUint10
import Derived.Shelf.Strconv.ParseUint10Empty
import Derived.Shelf.Strconv.ParseUint10Any
import Derived.Shelf.Strconv.ParseInt10
import Derived.Shelf.Strconv.RangeError
import Derived.Shelf.Strconv.ToErrorRange
import Derived.Shelf.Strconv.ParseUintEmpty
import Derived.Shelf.Strconv.ParseUint10b64
import Derived.Shelf.Strconv.ParseUint10b32
import Derived.Shelf.Strconv.ParseUint10b16
import Derived.Shelf.Strconv.ParseUint10b8
import Derived.Shelf.Strconv.ParseUint10At
import Derived.Shelf.Strconv.ParseInt10At64
import Derived.Shelf.Strconv.ParseInt10At32
import Derived.Shelf.Strconv.ParseInt10At16
import Derived.Shelf.Strconv.ParseInt10At8
import Derived.Shelf.Strconv.ParseInt10All
import Derived.Shelf.Strconv.ParseIntPublic10
import Derived.Shelf.Strings.Search1
import Derived.Shelf.Strings.Fields
import Derived.Shelf.Unicode.Latin
import Derived.Shelf.Unicode.Is16White
import Derived.Shelf.Unicode.IsSpaceAny
import Derived.Shelf.Unicode.Is16Any
import Derived.Shelf.Unicode.Is32Any
import Derived.Shelf.Unicode.ExclAny
import Derived.Lib.ParseIntB
set_option linter.all false
namespace Go.Proofs.YtmeeifechggoeaaGreatDoor
open Go Vc
theorem mx:Tryz.prog.follows .mixedOrders=true:=by kernel_rfl
theorem F3:FnF Tryz.prog 3 Tryz.f3 56 [] [.tmp 2]:=bS mx Tryz.func3 (by kernel_rfl) (by kernel_rfl)
theorem F4:FnF Tryz.prog 4 Tryz.f4 36 [] [.tmp 4]:=bS mx Tryz.func4 (by kernel_rfl) (by kernel_rfl)
theorem F5:FnF Tryz.prog 5 Tryz.f5 44 [] [.tmp 4]:=bS mx Tryz.func5 (by kernel_rfl) (by kernel_rfl)
theorem F6:FnF Tryz.prog 6 Tryz.f6 5 [] [.cell 2 28]:=bS mx Tryz.func6 (by kernel_rfl) (by kernel_rfl)
theorem F7:FnF Tryz.prog 7 Tryz.f7 51 [] [.tmp 8]:=bS mx Tryz.func7 (by kernel_rfl) (by kernel_rfl)
theorem F8:FnF Tryz.prog 8 Tryz.f8 64 [(6,.take 0<| .take 2<| .take 1<| .take 3<| .done),(9,.take 0<| .take 2<| .take 1<| .take 3<| .done),(12,.take 0<| .take 2<| .take 1<| .take 3<| .done)] [.tmp 6,.tmp 7]:=bS mx Tryz.func8 (by kernel_rfl) (by kernel_rfl)
theorem F9:FnF Tryz.prog 9 Tryz.f9 30 [] [.tmp 2,.tmp 3]:=bS mx Tryz.func9 (by kernel_rfl) (by kernel_rfl)
theorem F10:FnF Tryz.prog 10 Tryz.f10 71 [(6,.take 0<| .take 1<| .take 2<| .take 3<| .take 5<| .take 6<| .take 7<| .take 8<| .take 4<| .take 9<| .take 10<| .take 11<| .take 12<| .take 13<| .take 14<| .take 15<| .take 18<| .take 19<| .take 20<| .take 21<| .take 16<| .take 17<| .take 22<| .take 23<| .take 24<| .take 25<| .done),(11,.take 0<| .take 1<| .take 2<| .take 3<| .take 5<| .take 8<| .take 9<| .take 10<| .take 11<| .take 13<| .take 4<| .take 6<| .take 7<| .take 12<| .take 14<| .take 15<| .take 16<| .done)] [.tmp 4]:=bS mx Tryz.func10 (by kernel_rfl) (by kernel_rfl)
theorem F11:FnF Tryz.prog 11 Tryz.f11 17 [] [.tmp 2,.tmp 3]:=bS mx Tryz.func11 (by kernel_rfl) (by kernel_rfl)
theorem F12:FnF Tryz.prog 12 Tryz.f12 43 [(6,.take 1<| .take 0<| .eff 2 false (.eff 3 false (.eff 4 true (.eff 5 true (.done)<| .no)<| .no)<| .no)<| .no),(10,.take 0<| .take 1<| .take 2<| .eff 3 false (.eff 4 true (.done)<| .no)<| .no),(11,.take 0<| .take 1<| .eff 2 false (.eff 3 true (.done)<| .no)<| .no)] [.cell 2 43,.cell 3 45]:=bS mx Tryz.func12 (by kernel_rfl) (by kernel_rfl)
theorem F13:FnF Tryz.prog 13 Tryz.f13 64 [(3,.take 1<| .take 0<| .eff 2 true (.done)<| .no)] [.tmp 2,.cell 3 45]:=bS mx Tryz.func13 (by kernel_rfl) (by kernel_rfl)
theorem F14:FnF Tryz.prog 14 Tryz.f14 36 [] [.tmp 2]:=bS mx Tryz.func14 (by kernel_rfl) (by kernel_rfl)
theorem F15:FnF Tryz.prog 15 Tryz.f15 29 [(5,.take 0<| .take 2<| .take 1<| .eff 3 false (.eff 4 false (.eff 5 true (.take 6<| .eff 7 true (.done)<| .no)<| .no)<| .no)<| .no)] [.tmp 4]:=bS mx Tryz.func15 (by kernel_rfl) (by kernel_rfl)
theorem F16:FnF Tryz.prog 16 Tryz.f16 21 [] [.tmp 2]:=bS mx Tryz.func16 (by kernel_rfl) (by kernel_rfl)
theorem F17:FnF Tryz.prog 17 Tryz.f17 9 [] [.tmp 2]:=bS mx Tryz.func17 (by kernel_rfl) (by kernel_rfl)
theorem F18:FnF Tryz.prog 18 Tryz.f18 24 [] [.tmp 2,.tmp 3]:=bS mx Tryz.func18 (by kernel_rfl) (by kernel_rfl)
theorem F19:FnF Tryz.prog 19 Tryz.f19 16 [] [.tmp 0]:=bS mx Tryz.func19 (by kernel_rfl) (by kernel_rfl)
theorem F20:FnF Tryz.prog 20 Tryz.f20 19 [] [.tmp 4]:=bS mx Tryz.func20 (by kernel_rfl) (by kernel_rfl)
theorem F21:FnF Tryz.prog 21 Tryz.f21 8 [] [.tmp 3]:=bS mx Tryz.func21 (by kernel_rfl) (by kernel_rfl)
theorem F22:FnF Tryz.prog 22 Tryz.f22 13 [(7,.take 0<| .take 1<| .eff 2 false (.eff 3 true (.done)<| .no)<| .no)] []:=bS mx Tryz.func22 (by kernel_rfl) (by kernel_rfl)
theorem F23:FnF Tryz.prog 23 Tryz.f23 38 [] [.tmp 2]:=bS mx Tryz.func23 (by kernel_rfl) (by kernel_rfl)
theorem F24:FnF Tryz.prog 24 Tryz.f24 9 [] []:=bS mx Tryz.func24 (by kernel_rfl) (by kernel_rfl)
theorem F25:FnF Tryz.prog 25 Tryz.f25 20 [] [.tmp 2]:=bS mx Tryz.func25 (by kernel_rfl) (by kernel_rfl)
theorem F26:FnF Tryz.prog 26 Tryz.f26 82 [] [.cell 2 61]:=bS mx Tryz.func26 (by kernel_rfl) (by kernel_rfl)
theorem F27:FnF Tryz.prog 27 Tryz.f27 20 [] []:=bS mx Tryz.func27 (by kernel_rfl) (by kernel_rfl)
theorem F28:FnF Tryz.prog 28 Tryz.f28 25 [] [.cell 2 45]:=bS mx Tryz.func28 (by kernel_rfl) (by kernel_rfl)
theorem F29:FnF Tryz.prog 29 Tryz.f29 43 [(1,.take 0<| .take 1<| .take 2<| .take 4<| .take 5<| .take 6<| .take 3<| .take 7<| .take 8<| .eff 9 false (.eff 10 true (.done)<| .no)<| .no),(5,.take 0<| .take 1<| .take 2<| .take 3<| .take 4<| .take 9<| .take 10<| .take 11<| .take 5<| .take 6<| .take 12<| .eff 7 false (.eff 8 false (.eff 13 false (.eff 14 false (.take 15<| .take 16<| .eff 17 true (.take 18<| .take 19<| .eff 20 true (.done)<| .no)<| .no)<| .no)<| .no)<| .eff 13 false (.eff 8 false (.eff 14 false (.take 15<| .take 16<| .eff 17 true (.take 18<| .take 19<| .eff 20 true (.done)<| .no)<| .no)<| .no)<| .no)<| .no)<| .eff 13 false (.eff 7 false (.eff 8 false (.eff 14 false (.take 15<| .take 16<| .eff 17 true (.take 18<| .take 19<| .eff 20 true (.done)<| .no)<| .no)<| .no)<| .no)<| .no)<| .no)] [.tmp 4]:=bS mx Tryz.func29 (by kernel_rfl) (by kernel_rfl)
theorem F30:FnF Tryz.prog 30 Tryz.f30 77 [(1,.take 0<| .take 1<| .take 2<| .take 4<| .take 5<| .take 6<| .take 3<| .take 7<| .eff 8 false (.take 9<| .take 10<| .take 11<| .take 12<| .eff 13 false (.eff 14 true (.take 15<| .take 16<| .done)<| .no)<| .no)<| .eff 13 false (.eff 8 true (.take 9<| .take 10<| .take 11<| .take 12<| .eff 14 true (.take 15<| .take 16<| .done)<| .no)<| .no)<| .no),(4,.take 0<| .take 1<| .take 2<| .take 4<| .take 3<| .take 5<| .take 6<| .eff 7 false (.eff 8 true (.done)<| .no)<| .no),(8,.take 0<| .take 1<| .take 2<| .take 6<| .take 7<| .take 8<| .take 3<| .take 5<| .take 9<| .eff 4 false (.eff 10 false (.take 11<| .take 12<| .take 13<| .take 14<| .take 15<| .done)<| .no)<| .no),(11,.take 0<| .take 1<| .take 2<| .take 3<| .take 4<| .take 9<| .take 10<| .take 11<| .take 13<| .take 5<| .take 6<| .take 12<| .eff 7 false (.eff 8 false (.eff 14 false (.eff 15 false (.take 16<| .take 17<| .eff 18 true (.take 19<| .take 20<| .eff 21 true (.done)<| .no)<| .no)<| .no)<| .no)<| .eff 14 false (.eff 8 false (.eff 15 false (.take 16<| .take 17<| .eff 18 true (.take 19<| .take 20<| .eff 21 true (.done)<| .no)<| .no)<| .no)<| .no)<| .no)<| .eff 14 false (.eff 7 false (.eff 8 false (.eff 15 false (.take 16<| .take 17<| .eff 18 true (.take 19<| .take 20<| .eff 21 true (.done)<| .no)<| .no)<| .no)<| .no)<| .no)<| .no)] [.tmp 4]:=bS mx Tryz.func30 (by kernel_rfl) (by kernel_rfl)
theorem F31:FnF Tryz.prog 31 Tryz.f31 65 [] [.tmp 4]:=bS mx Tryz.func31 (by kernel_rfl) (by kernel_rfl)
theorem F33:FnF Tryz.prog 33 Tryz.f33 64 [(1,.take 0<| .take 1<| .take 2<| .take 4<| .take 5<| .take 6<| .take 3<| .take 7<| .eff 8 false (.take 9<| .take 10<| .take 11<| .take 12<| .eff 13 false (.eff 14 true (.take 15<| .take 16<| .done)<| .no)<| .no)<| .eff 13 false (.eff 8 true (.take 9<| .take 10<| .take 11<| .take 12<| .eff 14 true (.take 15<| .take 16<| .done)<| .no)<| .no)<| .no)] [.tmp 6]:=bS mx Tryz.func33 (by kernel_rfl) (by kernel_rfl)
theorem F34:FnF Tryz.prog 34 Tryz.f34 27 [] [.tmp 4]:=bS mx Tryz.func34 (by kernel_rfl) (by kernel_rfl)
theorem F35:FnF Tryz.prog 35 Tryz.f35 24 [] [.tmp 2]:=bS mx Tryz.func35 (by kernel_rfl) (by kernel_rfl)
theorem F36:FnF Tryz.prog 36 Tryz.f36 48 [] [.tmp 2]:=bS mx Tryz.func36 (by kernel_rfl) (by kernel_rfl)
theorem F37:FnF Tryz.prog 37 Tryz.f37 67 [] [.tmp 6]:=bS mx Tryz.func37 (by kernel_rfl) (by kernel_rfl)
theorem F38:FnF Tryz.prog 38 Tryz.f38 20 [] [.tmp 2,.tmp 3]:=bS mx Tryz.func38 (by kernel_rfl) (by kernel_rfl)
theorem F40:FnF Tryz.prog 40 Tryz.f40 102 [] [.cell 4 102,.tmp 5]:=bS mx Tryz.func40 (by kernel_rfl) (by kernel_rfl)
theorem F41:FnF Tryz.prog 41 Tryz.f41 17 [] [.tmp 4]:=bS mx Tryz.func41 (by kernel_rfl) (by kernel_rfl)
theorem F42:FnF Tryz.prog 42 Tryz.f42 45 [] [.tmp 2]:=bS mx Tryz.func42 (by kernel_rfl) (by kernel_rfl)
theorem F43:FnF Tryz.prog 43 Tryz.f43 65 [(7,.take 0<| .take 2<| .take 5<| .take 7<| .take 1<| .take 6<| .eff 3 false (.eff 4 false (.take 11<| .eff 8 false (.eff 9 false (.eff 10 false (.eff 12 true (.take 13<| .eff 14 true (.done)<| .no)<| .no)<| .no)<| .no)<| .no)<| .no)<| .no)] [.cell 2 57]:=bS mx Tryz.func43 (by kernel_rfl) (by kernel_rfl)
theorem F44:FnF Tryz.prog 44 Tryz.f44 24 [] [.tmp 6]:=bS mx Tryz.func44 (by kernel_rfl) (by kernel_rfl)
theorem F45:FnF Tryz.prog 45 Tryz.f45 28 [] [.cell 2 110]:=bS mx Tryz.func45 (by kernel_rfl) (by kernel_rfl)
theorem F46:FnF Tryz.prog 46 Tryz.f46 24 [] [.tmp 6]:=bS mx Tryz.func46 (by kernel_rfl) (by kernel_rfl)
theorem F47:FnF Tryz.prog 47 Tryz.f47 14 [] [.tmp 2]:=bS mx Tryz.func47 (by kernel_rfl) (by kernel_rfl)
theorem F48:FnF Tryz.prog 48 Tryz.f48 7 [] [.cell 2 59]:=bS mx Tryz.func48 (by kernel_rfl) (by kernel_rfl)
theorem F49:FnF Tryz.prog 49 Tryz.f49 150 [] [.tmp 2]:=bS mx Tryz.func49 (by kernel_rfl) (by kernel_rfl)
theorem F50:FnF Tryz.prog 50 Tryz.f50 36 [] [.tmp 4]:=bS mx Tryz.func50 (by kernel_rfl) (by kernel_rfl)
theorem F51:FnF Tryz.prog 51 Tryz.f51 53 [(7,.take 0<| .take 1<| .take 3<| .take 4<| .take 5<| .take 2<| .take 6<| .eff 7 true (.take 8<| .take 9<| .take 10<| .take 11<| .take 12<| .done)<| .no)] [.tmp 2]:=bS mx Tryz.func51 (by kernel_rfl) (by kernel_rfl)
theorem F52:FnF Tryz.prog 52 Tryz.f52 113 [(10,.take 0<| .take 2<| .take 3<| .take 1<| .take 4<| .take 5<| .take 6<| .take 7<| .eff 8 false (.eff 9 true (.done)<| .no)<| .no),(19,.take 0<| .take 2<| .take 3<| .take 1<| .take 4<| .take 6<| .eff 5 false (.eff 7 false (.take 8<| .eff 9 true (.done)<| .no)<| .no)<| .eff 7 false (.eff 5 false (.take 8<| .eff 9 true (.done)<| .no)<| .no)<| .no),(20,.take 0<| .take 2<| .eff 1 false (.eff 3 true (.take 4<| .take 5<| .take 6<| .take 7<| .eff 8 true (.done)<| .no)<| .no)<| .no),(22,.take 0<| .take 1<| .eff 2 false (.eff 3 false (.eff 4 true (.done)<| .no)<| .no)<| .no),(26,.take 1<| .take 2<| .take 3<| .take 5<| .take 0<| .take 4<| .take 6<| .eff 7 false (.eff 8 false (.eff 9 true (.done)<| .no)<| .no)<| .no),(28,.take 0<| .take 1<| .eff 2 false (.eff 3 true (.eff 4 true (.done)<| .no)<| .no)<| .no)] [.cell 4 121,.cell 5 52,.cell 6 34]:=bS mx Tryz.func52 (by kernel_rfl) (by kernel_rfl)
theorem F53:FnF Tryz.prog 53 Tryz.f53 26 [] [.tmp 6,.tmp 7]:=bS mx Tryz.func53 (by kernel_rfl) (by kernel_rfl)
theorem F54:FnF Tryz.prog 54 Tryz.f54 36 [] [.tmp 2]:=bS mx Tryz.func54 (by kernel_rfl) (by kernel_rfl)
theorem F55:FnF Tryz.prog 55 Tryz.f55 37 [(6,.take 1<| .take 2<| .take 0<| .take 3<| .take 4<| .eff 5 false (.take 6<| .take 7<| .done)<| .no)] [.cell 4 123,.tmp 5,.tmp 6]:=bS mx Tryz.func55 (by kernel_rfl) (by kernel_rfl)
theorem F56:FnF Tryz.prog 56 Tryz.f56 38 [(9,.take 0<| .take 1<| .take 2<| .take 3<| .take 4<| .take 6<| .take 7<| .take 8<| .take 5<| .take 9<| .take 10<| .take 11<| .done)] [.tmp 4]:=bS mx Tryz.func56 (by kernel_rfl) (by kernel_rfl)
theorem F57:FnF Tryz.prog 57 Tryz.f57 31 [] [.tmp 2,.tmp 3]:=bS mx Tryz.func57 (by kernel_rfl) (by kernel_rfl)
theorem F58:FnF Tryz.prog 58 Tryz.f58 61 [] [.tmp 6]:=bS mx Tryz.func58 (by kernel_rfl) (by kernel_rfl)
theorem F62:FnF Tryz.prog 62 Tryz.f62 47 [(10,.take 0<| .take 1<| .take 2<| .take 6<| .take 7<| .take 8<| .take 3<| .take 5<| .take 9<| .eff 4 false (.eff 10 false (.take 11<| .take 12<| .take 13<| .take 14<| .done)<| .no)<| .no)] [.tmp 4,.tmp 5]:=bS mx Tryz.func62 (by kernel_rfl) (by kernel_rfl)
theorem F63:FnF Tryz.prog 63 Tryz.f63 42 [(9,.take 0<| .take 1<| .take 2<| .take 4<| .take 5<| .take 6<| .take 3<| .take 7<| .eff 8 true (.take 9<| .done)<| .no)] [.tmp 4]:=bS mx Tryz.func63 (by kernel_rfl) (by kernel_rfl)
theorem F64:FnF Tryz.prog 64 Tryz.f64 19 [] [.tmp 2]:=bS mx Tryz.func64 (by kernel_rfl) (by kernel_rfl)
theorem F66:FnF Tryz.prog 66 Tryz.f66 13 [] [.tmp 2]:=bS mx Tryz.func66 (by kernel_rfl) (by kernel_rfl)
theorem F67:FnF Tryz.prog 67 Tryz.f67 20 [] [.tmp 4]:=bS mx Tryz.func67 (by kernel_rfl) (by kernel_rfl)
theorem F68:FnF Tryz.prog 68 Tryz.f68 9 [] [.tmp 2]:=bS mx Tryz.func68 (by kernel_rfl) (by kernel_rfl)
theorem F69:FnF Tryz.prog 69 Tryz.f69 9 [] [.tmp 2]:=bS mx Tryz.func69 (by kernel_rfl) (by kernel_rfl)
theorem F70:FnF Tryz.prog 70 Tryz.f70 17 [] [.tmp 4]:=bS mx Tryz.func70 (by kernel_rfl) (by kernel_rfl)
theorem F71:FnF Tryz.prog 71 Tryz.f71 8 [] [.tmp 2]:=bS mx Tryz.func71 (by kernel_rfl) (by kernel_rfl)
theorem F73:FnF Tryz.prog 73 Tryz.f73 8 [] [.tmp 4]:=bS mx Tryz.func73 (by kernel_rfl) (by kernel_rfl)
theorem F74:FnF Tryz.prog 74 Tryz.f74 42 [] [.tmp 4]:=bS mx Tryz.func74 (by kernel_rfl) (by kernel_rfl)
theorem F75:FnF Tryz.prog 75 Tryz.f75 49 [] [.tmp 2]:=bS mx Tryz.func75 (by kernel_rfl) (by kernel_rfl)
theorem F76:FnF Tryz.prog 76 Tryz.f76 77 [(13,.take 0<| .take 2<| .take 3<| .take 1<| .eff 4 false (.eff 5 false (.eff 6 true (.take 7<| .eff 8 true (.done)<| .no)<| .no)<| .no)<| .no)] [.cell 2 156]:=bS mx Tryz.func76 (by kernel_rfl) (by kernel_rfl)
theorem F77:FnF Tryz.prog 77 Tryz.f77 24 [] [.tmp 2]:=bS mx Tryz.func77 (by kernel_rfl) (by kernel_rfl)
theorem F78:FnF Tryz.prog 78 Tryz.f78 24 [] [.tmp 6]:=bS mx Tryz.func78 (by kernel_rfl) (by kernel_rfl)
theorem F79:FnF Tryz.prog 79 Tryz.f79 57 [] [.tmp 2]:=bS mx Tryz.func79 (by kernel_rfl) (by kernel_rfl)
theorem F80:FnF Tryz.prog 80 Tryz.f80 24 [] [.tmp 6]:=bS mx Tryz.func80 (by kernel_rfl) (by kernel_rfl)
theorem F81:FnF Tryz.prog 81 Tryz.f81 15 [] [.cell 1 28]:=bS mx Tryz.func81 (by kernel_rfl) (by kernel_rfl)
theorem F82:FnF Tryz.prog 82 Tryz.f82 76 [] [.cell 2 28,.tmp 3]:=bS mx Tryz.func82 (by kernel_rfl) (by kernel_rfl)
theorem F83:FnF Tryz.prog 83 Tryz.f83 19 [] [.tmp 2]:=bS mx Tryz.func83 (by kernel_rfl) (by kernel_rfl)
theorem F84:FnF Tryz.prog 84 Tryz.f84 88 [(20,.take 0<| .take 1<| .take 2<| .take 3<| .take 5<| .take 8<| .take 9<| .take 10<| .take 4<| .take 6<| .take 7<| .eff 11 false (.eff 12 false (.eff 13 true (.done)<| .no)<| .no)<| .no)] [.cell 4 59]:=bS mx Tryz.func84 (by kernel_rfl) (by kernel_rfl)
theorem F85:FnF Tryz.prog 85 Tryz.f85 127 [(1,.take 0<| .take 1<| .take 2<| .take 3<| .take 4<| .take 5<| .take 6<| .take 7<| .take 8<| .take 9<| .take 10<| .take 11<| .take 12<| .take 13<| .take 14<| .take 15<| .take 16<| .take 17<| .take 20<| .take 21<| .take 22<| .take 18<| .take 19<| .take 23<| .take 24<| .take 25<| .take 26<| .take 27<| .take 28<| .take 29<| .take 30<| .take 31<| .take 32<| .take 33<| .take 34<| .take 35<| .take 36<| .take 37<| .take 38<| .take 39<| .take 40<| .take 41<| .take 42<| .take 43<| .take 44<| .take 45<| .take 46<| .take 47<| .take 48<| .take 49<| .take 50<| .done)] [.tmp 2]:=bS mx Tryz.func85 (by kernel_rfl) (by kernel_rfl)
theorem F86:FnF Tryz.prog 86 Tryz.f86 15 [] [.tmp 2]:=bS mx Tryz.func86 (by kernel_rfl) (by kernel_rfl)
theorem F87:FnF Tryz.prog 87 Tryz.f87 33 [] [.tmp 2]:=bS mx Tryz.func87 (by kernel_rfl) (by kernel_rfl)
theorem F88:FnF Tryz.prog 88 Tryz.f88 6 [] [.tmp 2]:=bS mx Tryz.func88 (by kernel_rfl) (by kernel_rfl)
theorem F89:FnF Tryz.prog 89 Tryz.f89 11 [] [.tmp 4]:=bS mx Tryz.func89 (by kernel_rfl) (by kernel_rfl)
theorem F90:FnF Tryz.prog 90 Tryz.f90 18 [] [.tmp 2]:=bS mx Tryz.func90 (by kernel_rfl) (by kernel_rfl)
theorem F91:FnF Tryz.prog 91 Tryz.f91 15 [(7,.take 0<| .take 1<| .take 2<| .eff 3 false (.eff 4 false (.eff 5 true (.done)<| .no)<| .no)<| .no)] []:=bS mx Tryz.func91 (by kernel_rfl) (by kernel_rfl)
theorem F92:FnF Tryz.prog 92 Tryz.f92 209 [(3,.take 0<| .take 1<| .take 2<| .take 3<| .take 5<| .eff 4 false (.eff 6 true (.eff 7 true (.done)<| .no)<| .no)<| .no),(29,.take 0<| .take 2<| .take 3<| .take 4<| .take 5<| .take 7<| .take 1<| .take 6<| .take 8<| .take 9<| .eff 10 false (.eff 11 false (.eff 12 false (.take 13<| .eff 14 true (.done)<| .no)<| .no)<| .no)<| .no)] [.cell 4 121,.tmp 5]:=bS mx Tryz.func92 (by kernel_rfl) (by kernel_rfl)
theorem F93:FnF Tryz.prog 93 Tryz.f93 33 [(7,.take 0<| .take 2<| .eff 1 false (.eff 3 true (.eff 4 true (.eff 5 true (.done)<| .no)<| .no)<| .no)<| .no)] [.cell 6 121]:=bS mx Tryz.func93 (by kernel_rfl) (by kernel_rfl)
theorem F94:FnF Tryz.prog 94 Tryz.f94 22 [] [.tmp 4]:=bS mx Tryz.func94 (by kernel_rfl) (by kernel_rfl)
theorem F95:FnF Tryz.prog 95 Tryz.f95 50 [] [.tmp 4,.tmp 5]:=bS mx Tryz.func95 (by kernel_rfl) (by kernel_rfl)
theorem F96:FnF Tryz.prog 96 Tryz.f96 31 [] [.tmp 6,.tmp 7]:=bS mx Tryz.func96 (by kernel_rfl) (by kernel_rfl)
theorem F97:FnF Tryz.prog 97 Tryz.f97 21 [] [.tmp 2]:=bS mx Tryz.func97 (by kernel_rfl) (by kernel_rfl)
theorem F98:FnF Tryz.prog 98 Tryz.f98 9 [] [.tmp 2]:=bS mx Tryz.func98 (by kernel_rfl) (by kernel_rfl)
theorem F99:FnF Tryz.prog 99 Tryz.f99 9 [] [.tmp 2,.tmp 3]:=bS mx Tryz.func99 (by kernel_rfl) (by kernel_rfl)
theorem aj2:FnF Tryz.prog 100 Tryz.f100 21 [] [.tmp 4,.tmp 5]:=bS mx Tryz.func100 (by kernel_rfl) (by kernel_rfl)
theorem akd:FnF Tryz.prog 101 Tryz.f101 56 [(1,.take 0<| .take 1<| .take 2<| .take 4<| .take 5<| .take 6<| .take 8<| .take 9<| .take 10<| .take 12<| .take 3<| .take 7<| .take 11<| .eff 13 true (.take 14<| .take 15<| .take 16<| .take 17<| .take 18<| .done)<| .no)] [.tmp 4]:=bS mx Tryz.func101 (by kernel_rfl) (by kernel_rfl)
theorem Xu:FnF Tryz.prog 103 Tryz.f103 76 [(13,.take 4<| .take 0<| .take 1<| .take 2<| .take 3<| .take 5<| .take 6<| .take 7<| .take 8<| .eff 9 false (.take 10<| .eff 11 true (.done)<| .no)<| .no)] [.cell 4 117]:=bS mx Tryz.func103 (by kernel_rfl) (by kernel_rfl)
theorem ajP:FnF Tryz.prog 106 Tryz.f106 31 [] [.tmp 4]:=bS mx Tryz.func106 (by kernel_rfl) (by kernel_rfl)
theorem aiq:FnF Tryz.prog 107 Tryz.f107 6 [] [.tmp 2]:=bS mx Tryz.func107 (by kernel_rfl) (by kernel_rfl)
theorem aaT:FnF Tryz.prog 108 Tryz.f108 115 [(6,.take 0<| .take 1<| .take 2<| .take 3<| .take 4<| .take 5<| .take 6<| .done),(8,.take 0<| .take 1<| .take 2<| .take 3<| .take 4<| .take 5<| .take 6<| .eff 7 false (.eff 8 true (.done)<| .no)<| .no),(18,.take 8<| .take 10<| .take 1<| .take 2<| .take 3<| .take 4<| .take 5<| .eff 0 false (.take 6<| .take 7<| .eff 9 false (.eff 11 false (.eff 12 false (.eff 13 true (.done)<| .no)<| .no)<| .no)<| .no)<| .eff 9 false (.eff 0 false (.take 6<| .take 7<| .eff 11 false (.eff 12 false (.eff 13 true (.done)<| .no)<| .no)<| .no)<| .eff 11 false (.eff 0 false (.take 6<| .take 7<| .eff 12 false (.eff 13 true (.done)<| .no)<| .no)<| .no)<| .no)<| .no),(32,.take 4<| .take 6<| .take 0<| .take 1<| .take 2<| .take 3<| .eff 5 false (.eff 7 false (.eff 8 false (.eff 9 true (.done)<| .no)<| .no)<| .no)<| .no)] [.cell 4 28]:=bS mx Tryz.func108 (by kernel_rfl) (by kernel_rfl)
theorem aiB:FnF Tryz.prog 109 Tryz.f109 39 [] [.tmp 4,.tmp 5]:=bS mx Tryz.func109 (by kernel_rfl) (by kernel_rfl)
theorem acD:FnF Tryz.prog 111 Tryz.f111 69 [(2,.take 0<| .take 1<| .take 2<| .take 4<| .take 5<| .take 6<| .take 3<| .take 7<| .take 8<| .take 9<| .take 10<| .take 11<| .take 12<| .take 14<| .take 15<| .take 16<| .take 13<| .take 17<| .take 18<| .take 19<| .take 20<| .take 21<| .take 22<| .take 23<| .take 24<| .take 25<| .take 26<| .eff 27 false (.take 28<| .take 29<| .take 30<| .take 31<| .take 32<| .take 33<| .take 35<| .take 36<| .take 37<| .take 34<| .take 38<| .eff 39 false (.take 40<| .take 41<| .take 42<| .take 43<| .take 44<| .take 46<| .take 47<| .take 48<| .take 45<| .take 49<| .eff 50 false (.take 51<| .take 52<| .take 53<| .take 54<| .take 55<| .take 57<| .take 58<| .take 59<| .take 56<| .take 60<| .eff 61 false (.take 62<| .take 63<| .done)<| .no)<| .no)<| .no)<| .no)] [.tmp 4]:=bS mx Tryz.func111 (by kernel_rfl) (by kernel_rfl)
theorem CT:FnF Tryz.prog 113 Tryz.f113 63 [] [.tmp 4]:=bS mx Tryz.func113 (by kernel_rfl) (by kernel_rfl)
theorem akP:FnF Tryz.prog 114 Tryz.f114 25 [] [.cell 2 28]:=bS mx Tryz.func114 (by kernel_rfl) (by kernel_rfl)
theorem akY:FnF Tryz.prog 117 Tryz.f117 18 [] [.tmp 4]:=bS mx Tryz.func117 (by kernel_rfl) (by kernel_rfl)
theorem aem:FnF Tryz.prog 118 Tryz.f118 9 [] [.tmp 4]:=bS mx Tryz.func118 (by kernel_rfl) (by kernel_rfl)
theorem ajn:FnF Tryz.prog 119 Tryz.f119 2 [] [.tmp 0]:=bS mx Tryz.func119 (by kernel_rfl) (by kernel_rfl)
theorem ahT:FnF Tryz.prog 120 Tryz.f120 24 [] [.tmp 6]:=bS mx Tryz.func120 (by kernel_rfl) (by kernel_rfl)
theorem ajv:FnF Tryz.prog 121 Tryz.f121 13 [] [.cell 2 216]:=bS mx Tryz.func121 (by kernel_rfl) (by kernel_rfl)
theorem ajV:FnF Tryz.prog 122 Tryz.f122 24 [] [.cell 4 219]:=bS mx Tryz.func122 (by kernel_rfl) (by kernel_rfl)
theorem agj:FnF Tryz.prog 123 Tryz.f123 23 [] [.tmp 2]:=bS mx Tryz.func123 (by kernel_rfl) (by kernel_rfl)
theorem aip:FnF Tryz.prog 124 Tryz.f124 25 [] [.tmp 6,.tmp 7]:=bS mx Tryz.func124 (by kernel_rfl) (by kernel_rfl)
theorem aio:FnF Tryz.prog 125 Tryz.f125 8 [] []:=bS mx Tryz.func125 (by kernel_rfl) (by kernel_rfl)
theorem ail:FnF Tryz.prog 126 Tryz.f126 15 [] [.tmp 0]:=bS mx Tryz.func126 (by kernel_rfl) (by kernel_rfl)
theorem akr:FnF Tryz.prog 127 Tryz.f127 136 [(12,.take 0<| .take 2<| .take 1<| .eff 3 false (.eff 4 false (.eff 5 true (.take 6<| .eff 7 true (.done)<| .no)<| .no)<| .no)<| .no),(14,.take 0<| .take 2<| .take 1<| .eff 3 false (.eff 4 false (.eff 5 true (.take 6<| .eff 7 true (.done)<| .no)<| .no)<| .no)<| .no)] [.cell 2 59]:=bS mx Tryz.func127 (by kernel_rfl) (by kernel_rfl)
theorem ahC:FnF Tryz.prog 128 Tryz.f128 9 [] [.cell 4 59]:=bS mx Tryz.func128 (by kernel_rfl) (by kernel_rfl)
theorem aji:FnF Tryz.prog 129 Tryz.f129 19 [] [.tmp 4]:=bS mx Tryz.func129 (by kernel_rfl) (by kernel_rfl)
theorem ajh:FnF Tryz.prog 130 Tryz.f130 12 [] [.cell 6 59]:=bS mx Tryz.func130 (by kernel_rfl) (by kernel_rfl)
theorem ahu:FnF Tryz.prog 131 Tryz.f131 132 [] [.tmp 2]:=bS mx Tryz.func131 (by kernel_rfl) (by kernel_rfl)
theorem ado:FnF Tryz.prog 132 Tryz.f132 104 [] [.tmp 6]:=bS mx Tryz.func132 (by kernel_rfl) (by kernel_rfl)
theorem agf:FnF Tryz.prog 133 Tryz.f133 19 [] [.tmp 4]:=bS mx Tryz.func133 (by kernel_rfl) (by kernel_rfl)
theorem ahY:FnF Tryz.prog 134 Tryz.f134 8 [] [.tmp 3]:=bS mx Tryz.func134 (by kernel_rfl) (by kernel_rfl)
theorem afY:FnF Tryz.prog 135 Tryz.f135 9 [] [.tmp 4]:=bS mx Tryz.func135 (by kernel_rfl) (by kernel_rfl)
theorem aaF:FnF Tryz.prog 136 Tryz.f136 9 [] [.tmp 3]:=bS mx Tryz.func136 (by kernel_rfl) (by kernel_rfl)
theorem aia:FnF Tryz.prog 137 Tryz.f137 113 [(19,.take 0<| .take 1<| .take 2<| .take 3<| .take 5<| .take 6<| .take 4<| .take 7<| .take 8<| .eff 9 false (.eff 10 false (.take 11<| .take 12<| .eff 13 true (.done)<| .no)<| .no)<| .no),(24,.take 0<| .take 1<| .take 2<| .take 3<| .take 4<| .take 6<| .take 7<| .eff 5 false (.eff 8 true (.take 9<| .eff 10 true (.done)<| .no)<| .no)<| .eff 8 false (.eff 5 false (.take 9<| .eff 10 true (.done)<| .no)<| .no)<| .no)] [.cell 4 121,.tmp 5]:=bS mx Tryz.func137 (by kernel_rfl) (by kernel_rfl)
theorem afb:FnF Tryz.prog 138 Tryz.f138 9 [] [.cell 4 121]:=bS mx Tryz.func138 (by kernel_rfl) (by kernel_rfl)
theorem aiP:FnF Tryz.prog 139 Tryz.f139 9 [] [.tmp 4]:=bS mx Tryz.func139 (by kernel_rfl) (by kernel_rfl)
theorem ahH:FnF Tryz.prog 140 Tryz.f140 5 [] [.tmp 2]:=bS mx Tryz.func140 (by kernel_rfl) (by kernel_rfl)
theorem abI:FnF Tryz.prog 141 Tryz.f141 15 [] [.tmp 2]:=bS mx Tryz.func141 (by kernel_rfl) (by kernel_rfl)
theorem ajL:FnF Tryz.prog 142 Tryz.f142 5 [] []:=bS mx Tryz.func142 (by kernel_rfl) (by kernel_rfl)
theorem ahB:FnF Tryz.prog 143 Tryz.f143 23 [] [.tmp 4]:=bS mx Tryz.func143 (by kernel_rfl) (by kernel_rfl)
theorem adG:FnF Tryz.prog 144 Tryz.f144 6 [] [.cell 2 121]:=bS mx Tryz.func144 (by kernel_rfl) (by kernel_rfl)
theorem aid:FnF Tryz.prog 145 Tryz.f145 200 [(20,.take 0<| .take 1<| .take 2<| .take 3<| .take 4<| .take 5<| .take 6<| .take 7<| .take 8<| .take 10<| .take 11<| .take 12<| .take 9<| .take 13<| .take 14<| .take 15<| .take 16<| .done),(22,.take 0<| .take 1<| .take 2<| .take 4<| .take 5<| .take 6<| .take 3<| .take 7<| .take 8<| .take 9<| .take 10<| .take 11<| .done),(24,.take 0<| .take 1<| .take 3<| .take 4<| .take 6<| .take 7<| .take 8<| .take 2<| .take 5<| .take 9<| .eff 10 false (.take 11<| .take 12<| .done)<| .no),(26,.take 0<| .take 1<| .take 3<| .take 4<| .take 5<| .take 2<| .take 6<| .eff 7 true (.take 8<| .take 9<| .take 10<| .take 11<| .done)<| .no),(29,.take 0<| .take 1<| .take 3<| .take 4<| .take 2<| .take 5<| .eff 6 true (.take 7<| .take 8<| .take 9<| .take 10<| .done)<| .no),(36,.take 0<| .take 1<| .take 3<| .take 4<| .take 2<| .take 5<| .eff 6 false (.eff 7 false (.take 8<| .done)<| .no)<| .no),(40,.take 0<| .take 1<| .take 3<| .take 4<| .take 5<| .take 6<| .take 2<| .take 7<| .eff 8 false (.take 9<| .take 10<| .done)<| .no)] [.tmp 6,.tmp 7]:=bS mx Tryz.func145 (by kernel_rfl) (by kernel_rfl)
theorem aht:FnF Tryz.prog 146 Tryz.f146 8 [] [.tmp 2]:=bS mx Tryz.func146 (by kernel_rfl) (by kernel_rfl)
theorem akC:FnF Tryz.prog 147 Tryz.f147 30 [] [.tmp 4]:=bS mx Tryz.func147 (by kernel_rfl) (by kernel_rfl)
theorem ae5:FnF Tryz.prog 148 Tryz.f148 80 [] [.tmp 6,.tmp 7]:=bS mx Tryz.func148 (by kernel_rfl) (by kernel_rfl)
theorem aii:FnF Tryz.prog 149 Tryz.f149 10 [] [.tmp 2,.tmp 3]:=bS mx Tryz.func149 (by kernel_rfl) (by kernel_rfl)
theorem af6:FnF Tryz.prog 150 Tryz.f150 75 [(5,.take 0<| .take 1<| .take 2<| .take 5<| .take 3<| .take 6<| .eff 4 false (.take 7<| .take 8<| .eff 9 true (.done)<| .no)<| .no),(13,.take 0<| .take 1<| .take 2<| .take 3<| .take 4<| .take 5<| .take 6<| .take 7<| .take 8<| .take 10<| .take 9<| .take 11<| .eff 12 true (.take 13<| .take 14<| .done)<| .no),(15,.take 0<| .take 2<| .take 3<| .take 4<| .take 5<| .take 1<| .take 6<| .take 7<| .take 8<| .eff 9 true (.done)<| .no)] [.tmp 2]:=bS mx Tryz.func150 (by kernel_rfl) (by kernel_rfl)
theorem abB:FnF Tryz.prog 151 Tryz.f151 18 [] [.tmp 2]:=bS mx Tryz.func151 (by kernel_rfl) (by kernel_rfl)
theorem adt:FnF Tryz.prog 152 Tryz.f152 36 [] [.tmp 2]:=bS mx Tryz.func152 (by kernel_rfl) (by kernel_rfl)
theorem ah2:FnF Tryz.prog 153 Tryz.f153 70 [] [.tmp 8,.tmp 9]:=bS mx Tryz.func153 (by kernel_rfl) (by kernel_rfl)
theorem ahR:FnF Tryz.prog 154 Tryz.f154 41 [] [.tmp 4,.tmp 5]:=bS mx Tryz.func154 (by kernel_rfl) (by kernel_rfl)
theorem af9:FnF Tryz.prog 155 Tryz.f155 19 [] [.tmp 4]:=bS mx Tryz.func155 (by kernel_rfl) (by kernel_rfl)
theorem adp:FnF Tryz.prog 156 Tryz.f156 6 [] [.tmp 3]:=bS mx Tryz.func156 (by kernel_rfl) (by kernel_rfl)
theorem abM:FnF Tryz.prog 157 Tryz.f157 62 [(1,.take 0<| .take 1<| .take 2<| .take 4<| .take 5<| .take 6<| .take 3<| .take 7<| .take 8<| .done),(5,.take 0<| .take 1<| .take 2<| .take 5<| .take 6<| .take 7<| .take 3<| .take 8<| .eff 4 false (.eff 9 false (.take 10<| .take 11<| .done)<| .no)<| .no),(7,.take 0<| .take 1<| .take 2<| .take 4<| .take 5<| .take 6<| .take 3<| .take 7<| .take 8<| .take 9<| .take 10<| .take 11<| .take 12<| .take 14<| .take 15<| .take 16<| .take 13<| .take 17<| .take 18<| .take 19<| .take 20<| .done),(8,.take 0<| .take 1<| .take 2<| .take 4<| .take 5<| .take 6<| .take 3<| .take 7<| .eff 8 true (.take 9<| .done)<| .no)] [.tmp 4]:=bS mx Tryz.func157 (by kernel_rfl) (by kernel_rfl)
theorem adk:FnF Tryz.prog 158 Tryz.f158 65 [(5,.take 0<| .take 1<| .take 2<| .take 4<| .take 5<| .take 6<| .take 3<| .take 7<| .take 8<| .eff 9 false (.take 10<| .eff 11 true (.done)<| .no)<| .no),(6,.take 0<| .take 1<| .take 2<| .take 4<| .take 5<| .take 6<| .take 3<| .take 7<| .take 8<| .take 9<| .take 10<| .eff 11 false (.eff 12 false (.take 13<| .eff 14 true (.done)<| .no)<| .no)<| .no),(7,.take 0<| .take 1<| .take 2<| .take 5<| .take 6<| .take 7<| .take 3<| .take 4<| .take 8<| .take 9<| .take 10<| .take 11<| .take 12<| .take 13<| .take 14<| .eff 15 true (.done)<| .no)] [.cell 4 117]:=bS mx Tryz.func158 (by kernel_rfl) (by kernel_rfl)
theorem akW:FnF Tryz.prog 159 Tryz.f159 50 [(5,.take 0<| .take 2<| .take 3<| .take 4<| .take 1<| .take 5<| .take 6<| .take 7<| .take 8<| .take 9<| .take 10<| .take 11<| .take 12<| .take 13<| .take 14<| .take 16<| .take 17<| .take 18<| .take 15<| .take 19<| .take 20<| .take 21<| .take 22<| .done)] [.tmp 4]:=bS mx Tryz.func159 (by kernel_rfl) (by kernel_rfl)
theorem ah3:FnF Tryz.prog 160 Tryz.f160 37 [] [.tmp 4,.tmp 5]:=bS mx Tryz.func160 (by kernel_rfl) (by kernel_rfl)
theorem aiX:FnF Tryz.prog 161 Tryz.f161 48 [(11,.take 0<| .take 1<| .take 2<| .take 3<| .take 4<| .take 5<| .take 6<| .take 7<| .take 9<| .take 8<| .take 10<| .eff 11 true (.take 12<| .take 13<| .take 14<| .done)<| .no)] [.tmp 2]:=bS mx Tryz.func161 (by kernel_rfl) (by kernel_rfl)
theorem aiT:FnF Tryz.prog 162 Tryz.f162 9 [] [.tmp 2]:=bS mx Tryz.func162 (by kernel_rfl) (by kernel_rfl)
theorem mW:FnF Tryz.prog 163 Tryz.f163 13 [(1,.take 4<| .take 0<| .take 1<| .take 2<| .take 3<| .take 5<| .take 6<| .eff 7 false (.eff 8 true (.done)<| .no)<| .no)] [.cell 4 28]:=bS mx Tryz.func163 (by kernel_rfl) (by kernel_rfl)
theorem akt:FnF Tryz.prog 164 Tryz.f164 18 [] [.cell 2 28]:=bS mx Tryz.func164 (by kernel_rfl) (by kernel_rfl)
theorem aiC:FnF Tryz.prog 165 Tryz.f165 2 [] [.cell 0 28]:=bS mx Tryz.func165 (by kernel_rfl) (by kernel_rfl)
theorem ahW:FnF Tryz.prog 166 Tryz.f166 7 [] [.cell 2 28]:=bS mx Tryz.func166 (by kernel_rfl) (by kernel_rfl)
theorem ahZ:FnF Tryz.prog 167 Tryz.f167 11 [(1,.take 0<| .take 2<| .eff 1 false (.eff 3 false (.eff 4 false (.eff 5 false (.eff 6 true (.done)<| .no)<| .no)<| .no)<| .no)<| .no)] [.cell 4 28]:=bS mx Tryz.func167 (by kernel_rfl) (by kernel_rfl)
theorem akj:FnF Tryz.prog 168 Tryz.f168 11 [(1,.take 0<| .take 2<| .eff 1 false (.eff 3 false (.eff 4 false (.eff 5 false (.eff 6 true (.done)<| .no)<| .no)<| .no)<| .no)<| .no)] [.cell 4 28]:=bS mx Tryz.func168 (by kernel_rfl) (by kernel_rfl)
theorem aiW:FnF Tryz.prog 169 Tryz.f169 61 [(3,.take 0<| .take 2<| .take 1<| .take 4<| .take 3<| .take 5<| .done)] [.cell 6 28]:=bS mx Tryz.func169 (by kernel_rfl) (by kernel_rfl)
theorem akR:FnF Tryz.prog 170 Tryz.f170 30 [] [.cell 4 28]:=bS mx Tryz.func170 (by kernel_rfl) (by kernel_rfl)
theorem ak5:FnF Tryz.prog 171 Tryz.f171 8 [] [.cell 2 28]:=bS mx Tryz.func171 (by kernel_rfl) (by kernel_rfl)
theorem ahO:FnF Tryz.prog 172 Tryz.f172 39 [] [.cell 6 28]:=bS mx Tryz.func172 (by kernel_rfl) (by kernel_rfl)
theorem akQ:FnF Tryz.prog 173 Tryz.f173 23 [] [.tmp 2]:=bS mx Tryz.func173 (by kernel_rfl) (by kernel_rfl)
theorem ajo:FnF Tryz.prog 174 Tryz.f174 8 [] [.tmp 4]:=bS mx Tryz.func174 (by kernel_rfl) (by kernel_rfl)
theorem ajI:FnF Tryz.prog 175 Tryz.f175 32 [] [.tmp 6]:=bS mx Tryz.func175 (by kernel_rfl) (by kernel_rfl)
theorem afK:FnF Tryz.prog 176 Tryz.f176 6 [] [.tmp 4]:=bS mx Tryz.func176 (by kernel_rfl) (by kernel_rfl)
theorem Yg:FnF Tryz.prog 177 Tryz.f177 47 [(1,.take 0<| .take 1<| .take 2<| .take 4<| .take 5<| .take 6<| .take 3<| .take 7<| .take 8<| .take 9<| .take 10<| .take 11<| .take 12<| .take 14<| .take 15<| .take 16<| .take 13<| .take 17<| .take 18<| .take 19<| .take 20<| .take 21<| .take 22<| .take 23<| .take 25<| .take 26<| .take 27<| .take 24<| .take 28<| .take 29<| .take 30<| .take 31<| .take 32<| .take 33<| .take 34<| .take 36<| .take 37<| .take 38<| .take 35<| .take 39<| .eff 40 false (.take 41<| .take 42<| .done)<| .no)] [.tmp 4]:=bS mx Tryz.func177 (by kernel_rfl) (by kernel_rfl)
theorem ak7:FnF Tryz.prog 178 Tryz.f178 32 [] [.tmp 6]:=bS mx Tryz.func178 (by kernel_rfl) (by kernel_rfl)
theorem aeE:FnF Tryz.prog 179 Tryz.f179 15 [] [.tmp 4]:=bS mx Tryz.func179 (by kernel_rfl) (by kernel_rfl)
theorem akB:FnF Tryz.prog 180 Tryz.f180 32 [] [.tmp 6]:=bS mx Tryz.func180 (by kernel_rfl) (by kernel_rfl)
theorem aeD:FnF Tryz.prog 181 Tryz.f181 6 [] [.tmp 4]:=bS mx Tryz.func181 (by kernel_rfl) (by kernel_rfl)
theorem akZ:FnF Tryz.prog 183 Tryz.f183 19 [] [.tmp 4]:=bS mx Tryz.func183 (by kernel_rfl) (by kernel_rfl)
theorem ak1:FnF Tryz.prog 184 Tryz.f184 106 [] [.tmp 2]:=bS mx Tryz.func184 (by kernel_rfl) (by kernel_rfl)
theorem abW:FnF Tryz.prog 187 Tryz.f187 18 [] [.tmp 2]:=bS mx Tryz.func187 (by kernel_rfl) (by kernel_rfl)
theorem akw:FnF Tryz.prog 188 Tryz.f188 12 [(1,.take 0<| .take 1<| .take 2<| .take 3<| .take 4<| .take 5<| .take 6<| .take 7<| .eff 8 false (.take 9<| .done)<| .no)] [.tmp 2]:=bS mx Tryz.func188 (by kernel_rfl) (by kernel_rfl)
theorem ake:FnF Tryz.prog 189 Tryz.f189 12 [(1,.take 0<| .take 1<| .take 2<| .take 3<| .take 4<| .take 5<| .take 6<| .take 7<| .eff 8 false (.take 9<| .done)<| .no)] [.tmp 2]:=bS mx Tryz.func189 (by kernel_rfl) (by kernel_rfl)
theorem aiU:FnF Tryz.prog 190 Tryz.f190 8 [] [.tmp 2]:=bS mx Tryz.func190 (by kernel_rfl) (by kernel_rfl)
theorem ak6:FnF Tryz.prog 191 Tryz.f191 44 [] [.tmp 4]:=bS mx Tryz.func191 (by kernel_rfl) (by kernel_rfl)
theorem ahe:FnF Tryz.prog 192 Tryz.f192 43 [] [.tmp 2]:=bS mx Tryz.func192 (by kernel_rfl) (by kernel_rfl)
theorem ahJ:FnF Tryz.prog 193 Tryz.f193 19 [] [.tmp 4]:=bS mx Tryz.func193 (by kernel_rfl) (by kernel_rfl)
theorem ahm:FnF Tryz.prog 194 Tryz.f194 49 [(6,.take 0<| .take 2<| .take 1<| .take 3<| .eff 4 false (.take 5<| .done)<| .no),(8,.take 0<| .take 1<| .take 2<| .take 3<| .eff 4 false (.take 5<| .done)<| .no)] [.cell 4 121,.tmp 5]:=bS mx Tryz.func194 (by kernel_rfl) (by kernel_rfl)
theorem ajt:FnF Tryz.prog 195 Tryz.f195 8 [] [.tmp 2]:=bS mx Tryz.func195 (by kernel_rfl) (by kernel_rfl)
theorem ajB:FnF Tryz.prog 196 Tryz.f196 19 [] [.tmp 4]:=bS mx Tryz.func196 (by kernel_rfl) (by kernel_rfl)
theorem aiA:FnF Tryz.prog 197 Tryz.f197 9 [] [.tmp 4]:=bS mx Tryz.func197 (by kernel_rfl) (by kernel_rfl)
theorem ad9:FnF Tryz.prog 198 Tryz.f198 4 [] [.tmp 2]:=bS mx Tryz.func198 (by kernel_rfl) (by kernel_rfl)
theorem akb:FnF Tryz.prog 200 Tryz.f200 20 [] [.tmp 2]:=bS mx Tryz.func200 (by kernel_rfl) (by kernel_rfl)
theorem ahF:FnF Tryz.prog 201 Tryz.f201 24 [] [.tmp 4]:=bS mx Tryz.func201 (by kernel_rfl) (by kernel_rfl)
theorem ajW:FnF Tryz.prog 202 Tryz.f202 35 [] [.tmp 4,.tmp 5]:=bS mx Tryz.func202 (by kernel_rfl) (by kernel_rfl)
theorem akT:FnF Tryz.prog 203 Tryz.f203 51 [] [.tmp 4,.tmp 5]:=bS mx Tryz.func203 (by kernel_rfl) (by kernel_rfl)
theorem ajd:FnF Tryz.prog 204 Tryz.f204 72 [(1,.take 0<| .take 1<| .take 2<| .take 3<| .take 4<| .take 5<| .take 6<| .take 7<| .take 8<| .take 11<| .take 12<| .take 13<| .take 9<| .take 10<| .take 14<| .take 15<| .take 16<| .take 17<| .take 18<| .done)] [.tmp 4,.tmp 5]:=bS mx Tryz.func204 (by kernel_rfl) (by kernel_rfl)
theorem WT:FnF Tryz.prog 205 Tryz.f205 36 [] [.tmp 2]:=bS mx Tryz.func205 (by kernel_rfl) (by kernel_rfl)
theorem PK:FnF Tryz.prog 206 Tryz.f206 200 [(3,.take 0<| .take 1<| .take 3<| .take 4<| .take 5<| .take 7<| .take 8<| .take 2<| .take 6<| .take 9<| .eff 10 true (.take 11<| .take 12<| .take 13<| .take 14<| .done)<| .no),(5,.take 0<| .take 1<| .take 3<| .take 4<| .take 5<| .take 7<| .take 8<| .take 2<| .take 6<| .take 9<| .eff 10 true (.take 11<| .take 12<| .take 13<| .take 14<| .done)<| .no),(7,.take 0<| .take 1<| .take 3<| .take 4<| .take 6<| .take 7<| .take 8<| .take 10<| .take 11<| .take 13<| .take 14<| .take 2<| .take 5<| .take 9<| .take 12<| .take 15<| .eff 16 true (.take 17<| .take 18<| .take 19<| .take 20<| .done)<| .no),(9,.take 0<| .take 1<| .take 3<| .take 4<| .take 6<| .take 7<| .take 8<| .take 10<| .take 11<| .take 13<| .take 14<| .take 2<| .take 5<| .take 9<| .take 12<| .take 15<| .eff 16 true (.take 17<| .take 18<| .take 19<| .take 20<| .done)<| .no),(11,.take 0<| .take 1<| .take 3<| .take 4<| .take 6<| .take 7<| .take 8<| .take 10<| .take 11<| .take 13<| .take 14<| .take 2<| .take 5<| .take 9<| .take 12<| .take 15<| .eff 16 true (.take 17<| .take 18<| .take 19<| .take 20<| .done)<| .no),(13,.take 0<| .take 1<| .take 3<| .take 4<| .take 6<| .take 7<| .take 8<| .take 10<| .take 11<| .take 13<| .take 14<| .take 2<| .take 5<| .take 9<| .take 12<| .take 15<| .eff 16 true (.take 17<| .take 18<| .take 19<| .take 20<| .done)<| .no),(15,.take 0<| .take 1<| .take 3<| .take 4<| .take 2<| .take 5<| .eff 6 true (.take 7<| .take 8<| .take 9<| .take 10<| .done)<| .no),(17,.take 0<| .take 1<| .take 3<| .take 4<| .take 2<| .take 5<| .eff 6 true (.take 7<| .take 8<| .take 9<| .take 10<| .done)<| .no),(23,.take 0<| .take 1<| .take 3<| .take 4<| .take 5<| .take 7<| .take 8<| .take 9<| .take 11<| .take 12<| .take 2<| .take 6<| .take 10<| .take 13<| .eff 14 true (.take 15<| .take 16<| .take 17<| .take 18<| .done)<| .no),(24,.take 0<| .take 1<| .take 3<| .take 4<| .take 5<| .take 7<| .take 8<| .take 9<| .take 11<| .take 12<| .take 2<| .take 6<| .take 10<| .take 13<| .eff 14 true (.take 15<| .take 16<| .take 17<| .take 18<| .done)<| .no)] [.tmp 6,.tmp 7]:=bS mx Tryz.func206 (by kernel_rfl) (by kernel_rfl)
theorem aj1:FnF Tryz.prog 207 Tryz.f207 9 [] [.tmp 4]:=bS mx Tryz.func207 (by kernel_rfl) (by kernel_rfl)
theorem aiK:FnF Tryz.prog 208 Tryz.f208 7 [] [.tmp 2]:=bS mx Tryz.func208 (by kernel_rfl) (by kernel_rfl)
theorem akO:FnF Tryz.prog 209 Tryz.f209 9 [] []:=bS mx Tryz.func209 (by kernel_rfl) (by kernel_rfl)
theorem afr:FnF Tryz.prog 210 Tryz.f210 10 [] [.tmp 4]:=bS mx Tryz.func210 (by kernel_rfl) (by kernel_rfl)
theorem ajc:FnF Tryz.prog 211 Tryz.f211 34 [(6,.take 1<| .take 2<| .take 3<| .take 0<| .take 4<| .eff 5 true (.take 6<| .done)<| .no)] [.tmp 4]:=bS mx Tryz.func211 (by kernel_rfl) (by kernel_rfl)
theorem ai6:FnF Tryz.prog 212 Tryz.f212 27 [] [.tmp 4]:=bS mx Tryz.func212 (by kernel_rfl) (by kernel_rfl)
theorem ZO:FnF Tryz.prog 213 Tryz.f213 109 [(2,.take 0<| .take 1<| .take 2<| .take 4<| .take 5<| .take 6<| .take 10<| .take 11<| .take 12<| .take 14<| .take 15<| .take 16<| .take 3<| .take 7<| .take 8<| .take 9<| .take 20<| .take 13<| .take 17<| .take 18<| .take 19<| .take 21<| .take 22<| .done),(11,.take 0<| .take 1<| .take 2<| .take 4<| .take 5<| .take 6<| .take 8<| .take 3<| .take 7<| .take 9<| .take 10<| .eff 11 false (.take 12<| .take 13<| .take 14<| .take 15<| .take 16<| .done)<| .no)] [.tmp 4,.tmp 5,.tmp 6]:=bS mx Tryz.func213 (by kernel_rfl) (by kernel_rfl)
theorem aiZ:FnF Tryz.prog 214 Tryz.f214 32 [] [.tmp 6]:=bS mx Tryz.func214 (by kernel_rfl) (by kernel_rfl)
theorem akN:FnF Tryz.prog 215 Tryz.f215 6 [] [.tmp 4]:=bS mx Tryz.func215 (by kernel_rfl) (by kernel_rfl)
theorem aks:FnF Tryz.prog 216 Tryz.f216 137 [(19,.take 0<| .take 1<| .take 2<| .take 3<| .take 5<| .take 6<| .take 7<| .take 4<| .take 8<| .eff 9 false (.take 10<| .take 11<| .done)<| .no),(21,.take 0<| .take 1<| .take 2<| .take 3<| .take 4<| .take 5<| .take 6<| .take 7<| .take 8<| .take 10<| .take 11<| .take 12<| .take 9<| .take 13<| .take 14<| .take 15<| .take 16<| .done),(23,.take 0<| .take 1<| .take 2<| .take 4<| .take 5<| .take 6<| .take 3<| .take 7<| .take 8<| .take 9<| .take 10<| .take 11<| .done)] [.tmp 6,.tmp 7]:=bS mx Tryz.func216 (by kernel_rfl) (by kernel_rfl)
theorem akV:FnF Tryz.prog 217 Tryz.f217 9 [] [.cell 2 28]:=bS mx Tryz.func217 (by kernel_rfl) (by kernel_rfl)
theorem aj7:FnF Tryz.prog 218 Tryz.f218 12 [] [.cell 2 28]:=bS mx Tryz.func218 (by kernel_rfl) (by kernel_rfl)
theorem ajq:FnF Tryz.prog 219 Tryz.f219 15 [] [.cell 4 28]:=bS mx Tryz.func219 (by kernel_rfl) (by kernel_rfl)
theorem ai5:FnF Tryz.prog 220 Tryz.f220 15 [] [.cell 4 28]:=bS mx Tryz.func220 (by kernel_rfl) (by kernel_rfl)
theorem adV:FnF Tryz.prog 221 Tryz.f221 6 [] [.tmp 4]:=bS mx Tryz.func221 (by kernel_rfl) (by kernel_rfl)
theorem akA:FnF Tryz.prog 229 Tryz.f229 8 [] [.tmp 1]:=bS mx Tryz.func229 (by kernel_rfl) (by kernel_rfl)
theorem ahi:FnF Tryz.prog 230 Tryz.f230 7 [] [.tmp 1]:=bS mx Tryz.func230 (by kernel_rfl) (by kernel_rfl)
theorem ai2:FnF Tryz.prog 232 Tryz.f232 60 [] [.tmp 4,.tmp 5]:=bS mx Tryz.func232 (by kernel_rfl) (by kernel_rfl)
theorem aiJ:FnF Tryz.prog 233 Tryz.f233 27 [] [.tmp 4]:=bS mx Tryz.func233 (by kernel_rfl) (by kernel_rfl)
theorem ahx:FnF Tryz.prog 234 Tryz.f234 50 [(11,.take 0<| .take 1<| .take 2<| .take 5<| .take 3<| .take 6<| .eff 4 false (.take 7<| .eff 8 false (.eff 9 false (.take 10<| .done)<| .no)<| .no)<| .no)] [.tmp 6,.tmp 7]:=bS mx Tryz.func234 (by kernel_rfl) (by kernel_rfl)
theorem ahA:FnF Tryz.prog 241 Tryz.f241 8 [] [.tmp 2,.tmp 3]:=bS mx Tryz.func241 (by kernel_rfl) (by kernel_rfl)
theorem ajS:FnF Tryz.prog 244 Tryz.f244 19 [] [.tmp 4]:=bS mx Tryz.func244 (by kernel_rfl) (by kernel_rfl)
theorem aic:FnF Tryz.prog 245 Tryz.f245 63 [] []:=bS mx Tryz.func245 (by kernel_rfl) (by kernel_rfl)
theorem acC:FnF Tryz.prog 246 Tryz.f246 26 [(1,.take 0<| .take 2<| .eff 1 false (.eff 3 false (.eff 4 false (.eff 5 true (.done)<| .no)<| .no)<| .no)<| .no),(2,.take 0<| .take 2<| .take 5<| .take 7<| .take 10<| .take 12<| .take 1<| .take 3<| .take 6<| .take 8<| .take 11<| .take 13<| .eff 4 false (.eff 9 false (.eff 14 false (.eff 15 false (.eff 16 false (.take 17<| .done)<| .no)<| .no)<| .no)<| .no)<| .no)] [.tmp 4]:=bS mx Tryz.func246 (by kernel_rfl) (by kernel_rfl)
theorem aiR:FnF Tryz.prog 247 Tryz.f247 20 [] [.tmp 4]:=bS mx Tryz.func247 (by kernel_rfl) (by kernel_rfl)
theorem afT:FnF Tryz.prog 248 Tryz.f248 140 [(3,.take 0<| .take 1<| .take 2<| .take 3<| .take 4<| .take 5<| .eff 6 true (.take 7<| .done)<| .no),(5,.take 0<| .take 1<| .take 2<| .take 4<| .take 5<| .take 3<| .take 6<| .eff 7 true (.take 8<| .done)<| .no),(7,.take 0<| .take 1<| .take 2<| .take 3<| .take 4<| .take 6<| .take 7<| .take 10<| .take 11<| .take 12<| .take 13<| .take 14<| .take 16<| .take 17<| .take 20<| .take 21<| .take 22<| .take 23<| .take 24<| .take 26<| .take 27<| .take 5<| .take 8<| .take 15<| .take 18<| .take 25<| .take 28<| .eff 9 false (.eff 19 false (.eff 29 false (.eff 30 false (.eff 31 false (.take 32<| .done)<| .no)<| .no)<| .no)<| .no)<| .no),(9,.take 0<| .take 1<| .take 3<| .take 4<| .take 2<| .take 5<| .eff 6 false (.eff 7 false (.take 8<| .done)<| .no)<| .no),(11,.take 0<| .take 1<| .take 3<| .take 4<| .take 2<| .take 5<| .eff 6 false (.eff 7 false (.eff 8 false (.take 9<| .done)<| .no)<| .no)<| .no),(13,.take 0<| .take 1<| .take 3<| .take 4<| .take 2<| .take 5<| .eff 6 true (.take 7<| .done)<| .no),(15,.take 0<| .take 1<| .take 3<| .take 4<| .take 2<| .take 5<| .eff 6 true (.take 7<| .done)<| .no),(17,.take 0<| .take 1<| .take 2<| .take 4<| .take 5<| .take 3<| .take 6<| .eff 7 true (.take 8<| .done)<| .no),(19,.take 0<| .take 1<| .take 2<| .take 4<| .take 5<| .take 7<| .take 8<| .take 3<| .take 6<| .take 9<| .eff 10 false (.eff 11 false (.eff 12 false (.take 13<| .done)<| .no)<| .no)<| .no)] [.tmp 10]:=bS mx Tryz.func248 (by kernel_rfl) (by kernel_rfl)
theorem aku:FnF Tryz.prog 249 Tryz.f249 31 [] [.tmp 2]:=bS mx Tryz.func249 (by kernel_rfl) (by kernel_rfl)
theorem af1:FnF Tryz.prog 250 Tryz.f250 68 [(6,.take 0<| .take 1<| .take 3<| .take 4<| .take 2<| .take 5<| .eff 6 true (.take 7<| .take 8<| .take 9<| .take 10<| .done)<| .no),(12,.take 0<| .take 1<| .take 3<| .take 4<| .take 2<| .take 5<| .eff 6 true (.take 7<| .take 8<| .take 9<| .take 10<| .take 11<| .done)<| .no),(2,.take 0<| .take 1<| .take 3<| .take 4<| .take 2<| .take 5<| .eff 6 true (.take 7<| .take 8<| .take 9<| .take 10<| .take 11<| .done)<| .no)] [.tmp 4,.tmp 5]:=bS mx Tryz.func250 (by kernel_rfl) (by kernel_rfl)
theorem ajO:FnF Tryz.prog 251 Tryz.f251 15 [] [.tmp 4]:=bS mx Tryz.func251 (by kernel_rfl) (by kernel_rfl)
theorem ahh:FnF Tryz.prog 258 Tryz.f258 22 [] [.tmp 4]:=bS mx Tryz.func258 (by kernel_rfl) (by kernel_rfl)
theorem af0:FnF Tryz.prog 265 Tryz.f265 6 [] [.tmp 2]:=bS mx Tryz.func265 (by kernel_rfl) (by kernel_rfl)
theorem aki:FnF Tryz.prog 268 Tryz.f268 53 [(4,.take 0<| .take 1<| .take 2<| .take 3<| .take 4<| .take 5<| .take 6<| .take 7<| .take 9<| .take 10<| .take 11<| .take 12<| .take 8<| .take 13<| .eff 14 true (.take 15<| .take 16<| .done)<| .no),(6,.take 0<| .take 1<| .take 2<| .take 3<| .take 4<| .take 5<| .take 6<| .take 7<| .take 8<| .take 10<| .take 11<| .take 12<| .take 9<| .take 13<| .take 14<| .eff 15 true (.take 16<| .eff 17 true (.done)<| .no)<| .no)] []:=bS mx Tryz.func268 (by kernel_rfl) (by kernel_rfl)
theorem ahg:FnF Tryz.prog 269 Tryz.f269 220 [(5,.take 0<| .take 1<| .take 2<| .take 3<| .take 5<| .take 6<| .take 7<| .take 4<| .take 8<| .eff 9 true (.take 10<| .done)<| .no),(11,.take 0<| .take 1<| .take 2<| .take 3<| .take 4<| .take 5<| .take 6<| .take 7<| .take 8<| .take 10<| .take 11<| .take 12<| .take 9<| .take 13<| .take 14<| .eff 15 true (.take 16<| .eff 17 true (.done)<| .no)<| .no),(17,.take 0<| .take 1<| .take 2<| .take 3<| .take 5<| .take 6<| .take 7<| .take 4<| .take 8<| .eff 9 true (.take 10<| .take 11<| .done)<| .no),(23,.take 0<| .take 1<| .take 2<| .take 3<| .take 4<| .take 5<| .take 6<| .take 7<| .take 8<| .take 10<| .take 11<| .take 12<| .take 9<| .take 13<| .take 14<| .eff 15 true (.take 16<| .eff 17 true (.done)<| .no)<| .no),(35,.take 0<| .take 1<| .take 2<| .take 3<| .take 4<| .take 5<| .take 7<| .take 8<| .take 9<| .take 6<| .take 10<| .eff 11 true (.take 12<| .take 13<| .done)<| .no)] []:=bS mx Tryz.func269 (by kernel_rfl) (by kernel_rfl)
theorem aej:FnF Tryz.prog 270 Tryz.f270 18 [] [.tmp 2]:=bS mx Tryz.func270 (by kernel_rfl) (by kernel_rfl)
theorem ak0:FnF Tryz.prog 271 Tryz.f271 20 [] [.tmp 4]:=bS mx Tryz.func271 (by kernel_rfl) (by kernel_rfl)
theorem ajj:FnF Tryz.prog 273 Tryz.f273 6 [] [.tmp 2]:=bS mx Tryz.func273 (by kernel_rfl) (by kernel_rfl)
theorem ahL:FnF Tryz.prog 275 Tryz.f275 27 [(5,.take 0<| .take 1<| .take 2<| .take 5<| .take 3<| .take 6<| .eff 4 false (.take 7<| .eff 8 false (.eff 9 false (.take 10<| .done)<| .no)<| .no)<| .no)] [.tmp 4]:=bS mx Tryz.func275 (by kernel_rfl) (by kernel_rfl)
theorem akU:FnF Tryz.prog 278 Tryz.f278 43 [] [.tmp 6]:=bS mx Tryz.func278 (by kernel_rfl) (by kernel_rfl)
theorem adE:FnF Tryz.prog 280 Tryz.f280 6 [] [.tmp 2]:=bS mx Tryz.func280 (by kernel_rfl) (by kernel_rfl)
theorem ah4:FnF Tryz.prog 284 Tryz.f284 24 [] [.tmp 4]:=bS mx Tryz.func284 (by kernel_rfl) (by kernel_rfl)
theorem ajF:FnF Tryz.prog 285 Tryz.f285 19 [] [.tmp 4,.tmp 5]:=bS mx Tryz.func285 (by kernel_rfl) (by kernel_rfl)
theorem akS:FnF Tryz.prog 299 Tryz.f299 58 [] []:=bS mx Tryz.func299 (by kernel_rfl) (by kernel_rfl)
theorem ala:FnF Tryz.prog 300 Tryz.f300 6 [] [.tmp 2]:=bS mx Tryz.func300 (by kernel_rfl) (by kernel_rfl)
theorem ai8:FnF Tryz.prog 302 Tryz.f302 20 [] [.tmp 4]:=bS mx Tryz.func302 (by kernel_rfl) (by kernel_rfl)
theorem ak8:FnF Tryz.prog 319 Tryz.f319 38 [(3,.take 0<| .take 1<| .take 2<| .take 3<| .take 4<| .take 5<| .take 6<| .take 7<| .take 8<| .take 9<| .take 10<| .take 11<| .take 12<| .take 14<| .take 15<| .take 16<| .take 17<| .take 18<| .take 13<| .take 19<| .take 20<| .eff 21 true (.take 22<| .eff 23 true (.done)<| .no)<| .no)] []:=bS mx Tryz.func319 (by kernel_rfl) (by kernel_rfl)
theorem akE:FnF Tryz.prog 321 Tryz.f321 49 [] [.tmp 6,.tmp 7]:=bS mx Tryz.func321 (by kernel_rfl) (by kernel_rfl)
theorem ajC:FnF Tryz.prog 322 Tryz.f322 9 [] [.tmp 4]:=bS mx Tryz.func322 (by kernel_rfl) (by kernel_rfl)
theorem z8:j8 Tryz.prog 115=true:=by kernel_rfl
theorem Tc:j8 Tryz.prog 118=true:=by kernel_rfl
theorem ach:j8 Tryz.prog 119=true:=by kernel_rfl
theorem yO:j8 Tryz.prog 131=true:=by kernel_rfl
theorem Up:j8 Tryz.prog 146=true:=by kernel_rfl
theorem JY:j8 Tryz.prog 153=true:=by kernel_rfl
theorem IH:j8 Tryz.prog 154=true:=by kernel_rfl
theorem CZ:j8 Tryz.prog 182=true:=by kernel_rfl
theorem abu:j8 Tryz.prog 223=true:=by kernel_rfl
theorem Aj:j8 Tryz.prog 24=true:=by kernel_rfl
theorem Zr:j8 Tryz.prog 25=true:=by kernel_rfl
theorem ZR:j8 Tryz.prog 265=true:=by kernel_rfl
theorem acy:j8 Tryz.prog 273=true:=by kernel_rfl
theorem yP:j8 Tryz.prog 30=true:=by kernel_rfl
theorem Z6:j8 Tryz.prog 314=true:=by kernel_rfl
theorem iY:j8 Tryz.prog 33=true:=by kernel_rfl
theorem aaX:j8 Tryz.prog 337=true:=by kernel_rfl
theorem abX:j8 Tryz.prog 405=true:=by kernel_rfl
theorem K9:j8 Tryz.prog 43=true:=by kernel_rfl
theorem Zv:j8 Tryz.prog 48=true:=by kernel_rfl
theorem LK:j8 Tryz.prog 52=true:=by kernel_rfl
theorem P0:j8 Tryz.prog 53=true:=by kernel_rfl
theorem ko:j8 Tryz.prog 54=true:=by kernel_rfl
theorem F1:j8 Tryz.prog 55=true:=by kernel_rfl
theorem Ep:j8 Tryz.prog 63=true:=by kernel_rfl
theorem adK:j8 Tryz.prog 68=true:=by kernel_rfl
theorem Y6:j8 Tryz.prog 77=true:=by kernel_rfl
theorem yw:j8 Tryz.prog 87=true:=by kernel_rfl
theorem vD:j8 Tryz.prog 88=true:=by kernel_rfl
theorem Kw:j8 Tryz.prog 89=true:=by kernel_rfl
theorem aeo:j8 Tryz.prog 95=true:=by kernel_rfl
theorem zP:dR Tryz.prog 115=some (117,6,[(.int .i64 (0)),(.int .i64 (0)),(.int .i64 (0)),(.string ⟨#[]⟩),(.int .i64 (0)),(.slice none 0 0)]):=by kernel_rfl
theorem UN:dR Tryz.prog 118=some (282,7,[(.int .i64 (0)),(.int .i64 (0)),(.int .i64 (0)),(.int .i64 (0)),(.string ⟨#[]⟩),(.int .i64 (0)),(.slice none 0 0)]):=by kernel_rfl
theorem aaJ:dR Tryz.prog 119=some (121,11,[(.int .i64 (0)),(.int .i64 (0)),(.int .i64 (0)),(.int .i64 (0)),(.int .i64 (0)),(.string ⟨#[]⟩),(.int .i64 (0)),(.slice none 0 0),(.slice none 0 0),(.slice none 0 0),(.slice none 0 0)]):=by kernel_rfl
theorem yE:dR Tryz.prog 131=some (54,1,[(.slice none 0 0)]):=by kernel_rfl
theorem Q6:dR Tryz.prog 146=some (5,1,[(.int .u8 (0))]):=by kernel_rfl
theorem Ib:dR Tryz.prog 153=some (216,8,[(.int .i64 (0)),(.int .i64 (0)),(.int .i64 (0)),(.string ⟨#[]⟩),(.string ⟨#[]⟩),(.string ⟨#[]⟩),(.slice none 0 0),(.string ⟨#[]⟩)]):=by kernel_rfl
theorem Je:dR Tryz.prog 154=some (219,10,[(.int .i64 (0)),(.string ⟨#[]⟩),(.string ⟨#[]⟩),(.int .i64 (0)),(.int .i64 (0)),(.int .i64 (0)),(.string ⟨#[]⟩),(.string ⟨#[]⟩),(.string ⟨#[]⟩),(.slice none 0 0)]):=by kernel_rfl
theorem CF:dR Tryz.prog 182=some (187,2,[(.string ⟨#[]⟩),(.string ⟨#[]⟩)]):=by kernel_rfl
theorem Z2:dR Tryz.prog 223=some (226,3,[(.slice none 0 0),(.int .i64 (0)),(.bool false)]):=by kernel_rfl
theorem yh:dR Tryz.prog 24=some (30,1,[(.slice none 0 0)]):=by kernel_rfl
theorem Y1:dR Tryz.prog 25=some (2,1,[(.int .i64 (0))]):=by kernel_rfl
theorem ZY:dR Tryz.prog 265=some (34,1,[(.int .i64 (0))]):=by kernel_rfl
theorem aci:dR Tryz.prog 273=some (21,1,[(.int .i32 (0))]):=by kernel_rfl
theorem zG:dR Tryz.prog 30=some (28,3,[(.int .i64 (0)),(.int .i64 (0)),(.string ⟨#[]⟩)]):=by kernel_rfl
theorem acs:dR Tryz.prog 314=some (88,1,[(.slice none 0 0)]):=by kernel_rfl
theorem je:dR Tryz.prog 33=some (38,2,[(.slice none 0 0),(.int .i64 (0))]):=by kernel_rfl
theorem aak:dR Tryz.prog 337=some (125,1,[.nilFunc]):=by kernel_rfl
theorem ab0:dR Tryz.prog 405=some (407,2,[(.slice none 0 0),(.slice none 0 0)]):=by kernel_rfl
theorem KA:dR Tryz.prog 43=some (61,16,[(.int .i64 (0)),(.string ⟨#[]⟩),(.slice none 0 0),(.slice none 0 0),(.slice none 0 0),(.slice none 0 0),(.int .i64 (0)),(.slice none 0 0),(.bool false),(.int .i64 (0)),(.int .i64 (0)),(.int .i64 (0)),(.string ⟨#[]⟩),(.string ⟨#[]⟩),(.string ⟨#[]⟩),(.slice none 0 0)]):=by kernel_rfl
theorem Y8:dR Tryz.prog 48=some (65,3,[(.int .i64 (0)),(.slice none 0 0),(.slice none 0 0)]):=by kernel_rfl
theorem Lm:dR Tryz.prog 52=some (110,2,[(.string ⟨#[]⟩),(.int .i64 (0))]):=by kernel_rfl
theorem Rj:dR Tryz.prog 53=some (156,21,[(.bool false),(.bool false),(.slice none 0 0),(.slice none 0 0),(.bool false),(.bool false),(.int .i64 (0)),(.int .i64 (0)),(.int .i64 (0)),(.string ⟨#[]⟩),(.string ⟨#[]⟩),(.string ⟨#[]⟩),(.slice none 0 0),(.int .i64 (0)),(.int .i64 (0)),(.int .i64 (0)),(.string ⟨#[]⟩),(.string ⟨#[]⟩),(.string ⟨#[]⟩),(.slice none 0 0),(.slice none 0 0)]):=by kernel_rfl
theorem kd:dR Tryz.prog 54=some (3,1,[(.int .i64 (0))]):=by kernel_rfl
theorem Hh:dR Tryz.prog 55=some (59,7,[(.int .i64 (0)),(.int .i64 (0)),(.int .i64 (0)),(.string ⟨#[]⟩),(.string ⟨#[]⟩),(.string ⟨#[]⟩),(.slice none 0 0)]):=by kernel_rfl
theorem G3:dR Tryz.prog 63=some (9,1,[(.string ⟨#[]⟩)]):=by kernel_rfl
theorem adD:dR Tryz.prog 68=some (72,2,[(.string ⟨#[]⟩),(.string ⟨#[]⟩)]):=by kernel_rfl
theorem YU:dR Tryz.prog 77=some (102,3,[(.int .i64 (0)),(.string ⟨#[]⟩),(.int .i64 (0))]):=by kernel_rfl
theorem zB:dR Tryz.prog 87=some (123,14,[(.string ⟨#[]⟩),(.slice none 0 0),(.bool false),(.int .i64 (0)),(.int .i64 (0)),(.int .i64 (0)),(.int .i64 (0)),(.int .i64 (0)),(.string ⟨#[]⟩),(.int .i64 (0)),(.slice none 0 0),(.slice none 0 0),(.slice none 0 0),(.slice none 0 0)]):=by kernel_rfl
theorem wl:dR Tryz.prog 88=some (33,1,[(.slice none 0 0)]):=by kernel_rfl
theorem Kt:dR Tryz.prog 89=some (128,1,[(.pointer none)]):=by kernel_rfl
theorem adH:dR Tryz.prog 95=some (43,1,[(.slice none 0 0)]):=by kernel_rfl
theorem XO:Tryz.prog.concrete 173=true:=by kernel_rfl
theorem aa7:Tryz.prog.concrete 75=true:=by kernel_rfl
theorem aeK:Tryz.prog.concrete 9=true:=by kernel_rfl
theorem tz0:bt Tryz.prog 102=some ([(.int .i64 (0)),(.string ⟨#[]⟩),(.int .i64 (0))],[(0,1),(1,1),(2,1)])/\bt Tryz.prog 110=some ([(.string ⟨#[]⟩),(.int .i64 (0))],[(0,1),(1,1)])/\bt Tryz.prog 117=some ([(.int .i64 (0)),(.int .i64 (0)),(.int .i64 (0)),(.string ⟨#[]⟩),(.int .i64 (0)),(.slice none 0 0)],[(0,1),(1,3),(4,1),(5,1)])/\bt Tryz.prog 121=some ([(.int .i64 (0)),(.int .i64 (0)),(.int .i64 (0)),(.int .i64 (0)),(.int .i64 (0)),(.string ⟨#[]⟩),(.int .i64 (0)),(.slice none 0 0),(.slice none 0 0),(.slice none 0 0),(.slice none 0 0)],[(0,1),(1,1),(2,6),(8,1),(9,1),(10,1)])/\bt Tryz.prog 123=some ([(.string ⟨#[]⟩),(.slice none 0 0),(.bool false),(.int .i64 (0)),(.int .i64 (0)),(.int .i64 (0)),(.int .i64 (0)),(.int .i64 (0)),(.string ⟨#[]⟩),(.int .i64 (0)),(.slice none 0 0),(.slice none 0 0),(.slice none 0 0),(.slice none 0 0)],[(0,1),(1,1),(2,1),(3,11)])/\bt Tryz.prog 156=some ([(.bool false),(.bool false),(.slice none 0 0),(.slice none 0 0),(.bool false),(.bool false),(.int .i64 (0)),(.int .i64 (0)),(.int .i64 (0)),(.string ⟨#[]⟩),(.string ⟨#[]⟩),(.string ⟨#[]⟩),(.slice none 0 0),(.int .i64 (0)),(.int .i64 (0)),(.int .i64 (0)),(.string ⟨#[]⟩),(.string ⟨#[]⟩),(.string ⟨#[]⟩),(.slice none 0 0),(.slice none 0 0)],[(0,1),(1,1),(2,1),(3,1),(4,1),(5,1),(6,7),(13,7),(20,1)])/\bt Tryz.prog 173=some ([(.int .i64 (0))],[(0,1)])/\bt Tryz.prog 176=some ([(.slice none 0 0)],[(0,1)])/\bt Tryz.prog 185=some ([(.slice none 0 0),(.slice none 0 0),(.pointer none),(.pointer none)],[(0,1),(1,1),(2,1),(3,1)])/\bt Tryz.prog 187=some ([(.string ⟨#[]⟩),(.string ⟨#[]⟩)],[(0,1),(1,1)])/\bt Tryz.prog 193=some ([(.slice none 0 0),(.int .i64 (0)),(.int .i64 (0)),(.int .i64 (0)),(.int .i64 (0)),(.int .i64 (0)),(.string ⟨#[]⟩),(.int .i64 (0)),(.slice none 0 0),(.slice none 0 0),(.slice none 0 0),(.slice none 0 0),(.slice none 0 0),(.slice none 0 0)],[(0,1),(1,11),(12,1),(13,1)])/\bt Tryz.prog 216=some ([(.int .i64 (0)),(.int .i64 (0)),(.int .i64 (0)),(.string ⟨#[]⟩),(.string ⟨#[]⟩),(.string ⟨#[]⟩),(.slice none 0 0),(.string ⟨#[]⟩)],[(0,7),(7,1)])/\bt Tryz.prog 219=some ([(.int .i64 (0)),(.string ⟨#[]⟩),(.string ⟨#[]⟩),(.int .i64 (0)),(.int .i64 (0)),(.int .i64 (0)),(.string ⟨#[]⟩),(.string ⟨#[]⟩),(.string ⟨#[]⟩),(.slice none 0 0)],[(0,1),(1,1),(2,1),(3,7)])/\bt Tryz.prog 226=some ([(.slice none 0 0),(.int .i64 (0)),(.bool false)],[(0,1),(1,1),(2,1)])/\bt Tryz.prog 233=some ([(.int .i64 (0))],[(0,1)])/\bt Tryz.prog 250=some ([(.slice none 0 0),(.int .i64 (0))],[(0,1),(1,1)])/\bt Tryz.prog 28=some ([(.int .i64 (0)),(.int .i64 (0)),(.string ⟨#[]⟩)],[(0,1),(1,1),(2,1)])/\bt Tryz.prog 282=some ([(.int .i64 (0)),(.int .i64 (0)),(.int .i64 (0)),(.int .i64 (0)),(.string ⟨#[]⟩),(.int .i64 (0)),(.slice none 0 0)],[(0,1),(1,6)])/\bt Tryz.prog 318=some ([(.slice none 0 0),(.slice none 0 0),(.slice none 0 0)],[(0,1),(1,1),(2,1)])/\bt Tryz.prog 324=some ([(.slice none 0 0),(.int .i64 (0))],[(0,1),(1,1)])/\bt Tryz.prog 38=some ([(.slice none 0 0),(.int .i64 (0))],[(0,1),(1,1)])/\bt Tryz.prog 407=some ([(.slice none 0 0),(.slice none 0 0)],[(0,1),(1,1)])/\bt Tryz.prog 45=some ([(.int .i64 (0)),(.int .i64 (0))],[(0,1),(1,1)])/\bt Tryz.prog 57=some ([(.slice none 0 0),(.slice none 0 0),(.slice none 0 0),(.int .i64 (0))],[(0,1),(1,1),(2,1),(3,1)])/\bt Tryz.prog 59=some ([(.int .i64 (0)),(.int .i64 (0)),(.int .i64 (0)),(.string ⟨#[]⟩),(.string ⟨#[]⟩),(.string ⟨#[]⟩),(.slice none 0 0)],[(0,1),(1,3),(4,1),(5,1),(6,1)])/\bt Tryz.prog 61=some ([(.int .i64 (0)),(.string ⟨#[]⟩),(.slice none 0 0),(.slice none 0 0),(.slice none 0 0),(.slice none 0 0),(.int .i64 (0)),(.slice none 0 0),(.bool false),(.int .i64 (0)),(.int .i64 (0)),(.int .i64 (0)),(.string ⟨#[]⟩),(.string ⟨#[]⟩),(.string ⟨#[]⟩),(.slice none 0 0)],[(0,1),(1,1),(2,1),(3,4),(7,1),(8,1),(9,7)])/\bt Tryz.prog 65=some ([(.int .i64 (0)),(.slice none 0 0),(.slice none 0 0)],[(0,1),(1,1),(2,1)])/\bt Tryz.prog 72=some ([(.string ⟨#[]⟩),(.string ⟨#[]⟩)],[(0,1),(1,1)])/\bt Tryz.prog 75=some ([(.int .i64 (0)),(.int .i64 (0))],[(0,2)])/\bt Tryz.prog 80=some ([(.slice none 0 0),(.int .i64 (0)),(.int .i64 (0))],[(0,1),(1,1),(2,1)])/\bt Tryz.prog 91=some ([(.slice none 0 0),(.slice none 0 0),(.slice none 0 0),(.slice none 0 0)],[(0,1),(1,1),(2,1),(3,1)])/\cvT Tryz.prog 333 3=some .i64/\cvT Tryz.prog 3 333=some .u64/\cvT Tryz.prog 5 3=some .i64/\Vq Tryz.prog 333 3=0/\Vq Tryz.prog 3 333=0/\Vq Tryz.prog 5 3=0/\cS Tryz.prog 115=some 6/\cS Tryz.prog 118=some 7/\cS Tryz.prog 119=some 11/\cS Tryz.prog 131=some 1/\cS Tryz.prog 153=some 8/\cS Tryz.prog 154=some 10/\cS Tryz.prog 182=some 2/\cS Tryz.prog 22=some 1/\cS Tryz.prog 223=some 3/\cS Tryz.prog 24=some 1/\cS Tryz.prog 25=some 1/\cS Tryz.prog 265=some 1/\cS Tryz.prog 273=some 1/\cS Tryz.prog 30=some 3/\cS Tryz.prog 314=some 1/\cS Tryz.prog 33=some 2/\cS Tryz.prog 337=some 1/\cS Tryz.prog 366=some 1/\cS Tryz.prog 405=some 2/\cS Tryz.prog 43=some 16/\cS Tryz.prog 48=some 3/\cS Tryz.prog 52=some 2/\cS Tryz.prog 53=some 21:=by (repeat' apply And.intro)<;>kernel_rfl
theorem tz1:cS Tryz.prog 54=some 1/\cS Tryz.prog 55=some 7/\cS Tryz.prog 63=some 1/\cS Tryz.prog 68=some 2/\cS Tryz.prog 77=some 3/\cS Tryz.prog 87=some 14/\cS Tryz.prog 88=some 1/\cS Tryz.prog 89=some 1/\cS Tryz.prog 95=some 1/\fdP Tryz.prog 28 0=some (false,0,1)/\cC Tryz.prog 102 0=some 0/\cC Tryz.prog 102 1=some 1/\cC Tryz.prog 102 2=some 2/\cC Tryz.prog 110 0=some 0/\cC Tryz.prog 110 1=some 1/\cC Tryz.prog 117 0=some 0/\cC Tryz.prog 117 1=some 1/\cC Tryz.prog 117 2=some 4/\cC Tryz.prog 117 3=some 5/\cC Tryz.prog 121 0=some 0/\cC Tryz.prog 121 1=some 1/\cC Tryz.prog 121 2=some 2/\cC Tryz.prog 121 3=some 8/\cC Tryz.prog 121 4=some 9/\cC Tryz.prog 121 5=some 10/\cC Tryz.prog 123 0=some 0/\cC Tryz.prog 123 1=some 1/\cC Tryz.prog 123 2=some 2/\cC Tryz.prog 123 3=some 3/\cC Tryz.prog 148 1=some 1/\cC Tryz.prog 156 0=some 0/\cC Tryz.prog 156 1=some 1/\cC Tryz.prog 156 2=some 2/\cC Tryz.prog 156 3=some 3/\cC Tryz.prog 156 4=some 4/\cC Tryz.prog 156 5=some 5/\cC Tryz.prog 156 6=some 6/\cC Tryz.prog 156 7=some 13/\cC Tryz.prog 156 8=some 20/\cC Tryz.prog 173 0=some 0/\cC Tryz.prog 176 0=some 0/\cC Tryz.prog 185 0=some 0/\cC Tryz.prog 185 1=some 1/\cC Tryz.prog 185 2=some 2/\cC Tryz.prog 185 3=some 3/\cC Tryz.prog 187 0=some 0/\cC Tryz.prog 187 1=some 1/\cC Tryz.prog 193 0=some 0/\cC Tryz.prog 193 1=some 1/\cC Tryz.prog 193 2=some 12/\cC Tryz.prog 193 3=some 13/\cC Tryz.prog 216 0=some 0/\cC Tryz.prog 216 1=some 7/\cC Tryz.prog 219 0=some 0/\cC Tryz.prog 219 1=some 1/\cC Tryz.prog 219 2=some 2/\cC Tryz.prog 219 3=some 3/\cC Tryz.prog 226 0=some 0/\cC Tryz.prog 226 1=some 1/\cC Tryz.prog 226 2=some 2:=by (repeat' apply And.intro)<;>kernel_rfl
theorem tz2:cC Tryz.prog 233 0=some 0/\cC Tryz.prog 250 0=some 0/\cC Tryz.prog 250 1=some 1/\cC Tryz.prog 282 0=some 0/\cC Tryz.prog 282 1=some 1/\cC Tryz.prog 28 0=some 0/\cC Tryz.prog 28 1=some 1/\cC Tryz.prog 28 2=some 2/\cC Tryz.prog 318 0=some 0/\cC Tryz.prog 318 1=some 1/\cC Tryz.prog 318 2=some 2/\cC Tryz.prog 324 0=some 0/\cC Tryz.prog 324 1=some 1/\cC Tryz.prog 38 0=some 0/\cC Tryz.prog 38 1=some 1/\cC Tryz.prog 407 0=some 0/\cC Tryz.prog 407 1=some 1/\cC Tryz.prog 426 0=some 0/\cC Tryz.prog 426 1=some 1/\cC Tryz.prog 45 0=some 0/\cC Tryz.prog 57 0=some 0/\cC Tryz.prog 57 1=some 1/\cC Tryz.prog 57 2=some 2/\cC Tryz.prog 57 3=some 3/\cC Tryz.prog 59 0=some 0/\cC Tryz.prog 59 1=some 1/\cC Tryz.prog 59 2=some 4/\cC Tryz.prog 59 3=some 5/\cC Tryz.prog 59 4=some 6/\cC Tryz.prog 61 0=some 0/\cC Tryz.prog 61 1=some 1/\cC Tryz.prog 61 2=some 2/\cC Tryz.prog 61 3=some 3/\cC Tryz.prog 61 4=some 7/\cC Tryz.prog 61 5=some 8/\cC Tryz.prog 61 6=some 9/\cC Tryz.prog 65 2=some 2/\cC Tryz.prog 72 0=some 0/\cC Tryz.prog 72 1=some 1/\cC Tryz.prog 75 0=some 0/\cC Tryz.prog 80 0=some 0/\cC Tryz.prog 80 1=some 1/\cC Tryz.prog 80 2=some 2/\cC Tryz.prog 91 0=some 0/\cC Tryz.prog 91 1=some 1/\cC Tryz.prog 91 2=some 2/\cC Tryz.prog 91 3=some 3/\tm Tryz.prog 4=true/\dH Tryz.prog 115=true/\dH Tryz.prog 118=true/\dH Tryz.prog 119=true/\dH Tryz.prog 131=true/\dH Tryz.prog 146=true/\dH Tryz.prog 153=true/\dH Tryz.prog 154=true/\dH Tryz.prog 182=true/\dH Tryz.prog 22=true/\dH Tryz.prog 223=true/\dH Tryz.prog 24=true/\dH Tryz.prog 25=true:=by (repeat' apply And.intro)<;>kernel_rfl
theorem tz3:dH Tryz.prog 265=true/\dH Tryz.prog 30=true/\dH Tryz.prog 314=true/\dH Tryz.prog 33=true/\dH Tryz.prog 337=true/\dH Tryz.prog 405=true/\dH Tryz.prog 43=true/\dH Tryz.prog 52=true/\dH Tryz.prog 53=true/\dH Tryz.prog 54=true/\dH Tryz.prog 55=true/\dH Tryz.prog 63=true/\dH Tryz.prog 68=true/\dH Tryz.prog 77=true/\dH Tryz.prog 87=true/\dH Tryz.prog 88=true/\dH Tryz.prog 89=true/\dH Tryz.prog 9=false/\dH Tryz.prog 95=true/\cF Tryz.prog 115=false/\cF Tryz.prog 118=false/\cF Tryz.prog 119=false/\cF Tryz.prog 131=false/\cF Tryz.prog 146=false/\cF Tryz.prog 153=false/\cF Tryz.prog 154=false/\cF Tryz.prog 182=false/\cF Tryz.prog 22=false/\cF Tryz.prog 223=false/\cF Tryz.prog 24=false/\cF Tryz.prog 25=false/\cF Tryz.prog 265=false/\cF Tryz.prog 30=false/\cF Tryz.prog 314=false/\cF Tryz.prog 33=false/\cF Tryz.prog 337=false/\cF Tryz.prog 405=false/\cF Tryz.prog 43=false/\cF Tryz.prog 52=false/\cF Tryz.prog 53=false/\cF Tryz.prog 54=false/\cF Tryz.prog 55=false/\cF Tryz.prog 63=false/\cF Tryz.prog 68=false/\cF Tryz.prog 77=false/\cF Tryz.prog 87=false/\cF Tryz.prog 88=false/\cF Tryz.prog 89=false/\cF Tryz.prog 9=true/\cF Tryz.prog 95=false/\H6 Tryz.prog 300=some .i64/\tk Tryz.prog 102=some (true,3,(.agg #[(.int .i64 (0)),(.string ⟨#[]⟩),(.int .i64 (0))]))/\tk Tryz.prog 110=some (true,2,(.agg #[(.string ⟨#[]⟩),(.int .i64 (0))]))/\tk Tryz.prog 115=some (false,1,(.slice none 0 0))/\tk Tryz.prog 117=some (true,6,(.agg #[(.int .i64 (0)),(.int .i64 (0)),(.int .i64 (0)),(.string ⟨#[]⟩),(.int .i64 (0)),(.slice none 0 0)]))/\tk Tryz.prog 118=some (false,1,(.slice none 0 0))/\tk Tryz.prog 119=some (false,1,(.slice none 0 0))/\tk Tryz.prog 121=some (true,11,(.agg #[(.int .i64 (0)),(.int .i64 (0)),(.int .i64 (0)),(.int .i64 (0)),(.int .i64 (0)),(.string ⟨#[]⟩),(.int .i64 (0)),(.slice none 0 0),(.slice none 0 0),(.slice none 0 0),(.slice none 0 0)]))/\tk Tryz.prog 123=some (true,14,(.agg #[(.string ⟨#[]⟩),(.slice none 0 0),(.bool false),(.int .i64 (0)),(.int .i64 (0)),(.int .i64 (0)),(.int .i64 (0)),(.int .i64 (0)),(.string ⟨#[]⟩),(.int .i64 (0)),(.slice none 0 0),(.slice none 0 0),(.slice none 0 0),(.slice none 0 0)]))/\tk Tryz.prog 125=some (false,1,.nilFunc):=by (repeat' apply And.intro)<;>kernel_rfl
theorem tz4:tk Tryz.prog 128=some (false,1,(.pointer none))/\tk Tryz.prog 131=some (false,1,(.slice none 0 0))/\tk Tryz.prog 146=some (false,1,(.slice none 0 0))/\tk Tryz.prog 148=some (true,2,(.agg #[(.pointer none),(.slice none 0 0)]))/\tk Tryz.prog 153=some (false,1,(.slice none 0 0))/\tk Tryz.prog 154=some (false,1,(.slice none 0 0))/\tk Tryz.prog 156=some (true,21,(.agg #[(.bool false),(.bool false),(.slice none 0 0),(.slice none 0 0),(.bool false),(.bool false),(.int .i64 (0)),(.int .i64 (0)),(.int .i64 (0)),(.string ⟨#[]⟩),(.string ⟨#[]⟩),(.string ⟨#[]⟩),(.slice none 0 0),(.int .i64 (0)),(.int .i64 (0)),(.int .i64 (0)),(.string ⟨#[]⟩),(.string ⟨#[]⟩),(.string ⟨#[]⟩),(.slice none 0 0),(.slice none 0 0)]))/\tk Tryz.prog 173=some (true,1,(.agg #[(.int .i64 (0))]))/\tk Tryz.prog 179=some (false,1,(.pointer none))/\tk Tryz.prog 181=some (false,1,(.pointer none))/\tk Tryz.prog 182=some (false,1,(.slice none 0 0))/\tk Tryz.prog 183=some (false,1,(.pointer none))/\tk Tryz.prog 187=some (true,2,(.agg #[(.string ⟨#[]⟩),(.string ⟨#[]⟩)]))/\tk Tryz.prog 197=some (false,1,(.pointer none))/\tk Tryz.prog 2=some (false,1,(.int .i64 (0)))/\tk Tryz.prog 203=some (false,1,(.pointer none))/\tk Tryz.prog 21=some (false,1,(.int .i32 (0)))/\tk Tryz.prog 216=some (true,8,(.agg #[(.int .i64 (0)),(.int .i64 (0)),(.int .i64 (0)),(.string ⟨#[]⟩),(.string ⟨#[]⟩),(.string ⟨#[]⟩),(.slice none 0 0),(.string ⟨#[]⟩)]))/\tk Tryz.prog 219=some (true,10,(.agg #[(.int .i64 (0)),(.string ⟨#[]⟩),(.string ⟨#[]⟩),(.int .i64 (0)),(.int .i64 (0)),(.int .i64 (0)),(.string ⟨#[]⟩),(.string ⟨#[]⟩),(.string ⟨#[]⟩),(.slice none 0 0)]))/\tk Tryz.prog 24=some (false,1,(.slice none 0 0))/\tk Tryz.prog 25=some (false,1,(.slice none 0 0))/\tk Tryz.prog 28=some (true,3,(.agg #[(.int .i64 (0)),(.int .i64 (0)),(.string ⟨#[]⟩)]))/\tk Tryz.prog 282=some (true,7,(.agg #[(.int .i64 (0)),(.int .i64 (0)),(.int .i64 (0)),(.int .i64 (0)),(.string ⟨#[]⟩),(.int .i64 (0)),(.slice none 0 0)]))/\tk Tryz.prog 294=some (false,1,(.pointer none))/\tk Tryz.prog 3=some (false,1,(.int .i64 (0)))/\tk Tryz.prog 30=some (false,1,(.slice none 0 0))/\tk Tryz.prog 33=some (false,1,(.slice none 0 0))/\tk Tryz.prog 34=some (false,1,(.int .i64 (0)))/\tk Tryz.prog 366=some (false,1,(.slice none 0 0))/\tk Tryz.prog 38=some (true,2,(.agg #[(.slice none 0 0),(.int .i64 (0))]))/\tk Tryz.prog 4=some (false,1,(.bool false))/\tk Tryz.prog 407=some (true,2,(.agg #[(.slice none 0 0),(.slice none 0 0)]))/\tk Tryz.prog 426=some (true,2,(.agg #[(.int .i64 (0)),(.int .i64 (0))]))/\tk Tryz.prog 43=some (false,1,(.slice none 0 0))/\tk Tryz.prog 45=some (true,2,(.agg #[(.int .i64 (0)),(.int .i64 (0))]))/\tk Tryz.prog 48=some (false,1,(.slice none 0 0))/\tk Tryz.prog 5=some (false,1,(.int .u8 (0)))/\tk Tryz.prog 52=some (false,1,(.slice none 0 0))/\tk Tryz.prog 53=some (false,1,(.slice none 0 0))/\tk Tryz.prog 54=some (false,1,(.slice none 0 0))/\tk Tryz.prog 55=some (false,1,(.slice none 0 0))/\tk Tryz.prog 57=some (true,4,(.agg #[(.slice none 0 0),(.slice none 0 0),(.slice none 0 0),(.int .i64 (0))]))/\tk Tryz.prog 59=some (true,7,(.agg #[(.int .i64 (0)),(.int .i64 (0)),(.int .i64 (0)),(.string ⟨#[]⟩),(.string ⟨#[]⟩),(.string ⟨#[]⟩),(.slice none 0 0)]))/\tk Tryz.prog 61=some (true,16,(.agg #[(.int .i64 (0)),(.string ⟨#[]⟩),(.slice none 0 0),(.slice none 0 0),(.slice none 0 0),(.slice none 0 0),(.int .i64 (0)),(.slice none 0 0),(.bool false),(.int .i64 (0)),(.int .i64 (0)),(.int .i64 (0)),(.string ⟨#[]⟩),(.string ⟨#[]⟩),(.string ⟨#[]⟩),(.slice none 0 0)]))/\tk Tryz.prog 63=some (false,1,(.slice none 0 0))/\tk Tryz.prog 72=some (true,2,(.agg #[(.string ⟨#[]⟩),(.string ⟨#[]⟩)]))/\tk Tryz.prog 75=some (true,2,(.agg #[(.int .i64 (0)),(.int .i64 (0))]))/\tk Tryz.prog 76=some (false,1,(.pointer none))/\tk Tryz.prog 77=some (false,1,(.slice none 0 0))/\tk Tryz.prog 87=some (false,1,(.slice none 0 0))/\tk Tryz.prog 88=some (false,1,(.slice none 0 0))/\tk Tryz.prog 89=some (false,1,(.slice none 0 0))/\tk Tryz.prog 9=some (false,1,(.string ⟨#[]⟩)):=by (repeat' apply And.intro)<;>kernel_rfl
attribute [go_sem] tz0 tz1 tz2 tz3 tz4 z8 Tc ach yO Up JY IH CZ abu Aj Zr ZR acy yP Z6 iY aaX abX K9 Zv LK P0 ko F1 Ep adK Y6 yw vD Kw aeo zP UN aaJ yE Q6 Ib Je CF Z2 yh Y1 ZY aci zG acs je aak ab0 KA Y8 Lm Rj kd Hh G3 adD YU zB wl Kt adH
attribute [go_sem ↓] XO aa7 aeK
set_option maxRecDepth 10000
def eO (v:V):Int:=
 if v.k=1 then 0 else if v.k=2 then (if v.n≠0/\v.n≠1 then 3 else 0) else if v.k=3 then (if v.n>1000000000000000\/v.n< -1000000000000000 then 3 else 0)
 else if v.k=4 then (if v.t.length>60 then 4 else 0) else 1
theorem ja (v:V)(M:aS):Ct Tryz.prog 87 [.agg ⟨v.cs⟩] M [] [] (fun r _ _ _=>r=.int .i64 (eO v)) aM:=by
 intro T
 obtain ⟨k,n,t⟩:=v
 refine az F87 rfl rfl ?_
 intro _ _
 simp +contextual only [go_sem,aD,sevalprocAttr,V.cs]
 intro b T1 _ hT _
 (repeat' split)<;>(refine ak hT ?_;refine cN ?_;simp only [eO];grind)
theorem AO (v:V)(M:aS):Ct Tryz.prog 36 [.agg ⟨v.cs⟩] M [] [] (fun r _ _ _=>r=.int .i64 (eO v)) aM:=by
 intro T
 obtain ⟨k,n,t⟩:=v
 refine az F36 rfl rfl ?_
 intro _ _
 simp +contextual only [go_sem,aD,sevalprocAttr,V.cs]
 intro b T1 _ hT _
 (repeat' split)<;>(refine ak hT ?_;refine cN ?_;simp only [eO];grind)
def rE (k:Int):Int:=if k=1\/k=2\/k=19 then 0 else if k=3\/k=16\/(20<=k/\k<=23) then 1 else if (4<=k/\k<=15)\/k=18 then 2 else if k=17 then 3 else -1
theorem Fv (k:Int)(M:aS):Ct Tryz.prog 192 [.int .i64 k] M [] [] (fun r _ _ _=>r=.int .i64 (rE k)) aM:=by
 intro T
 refine az ahe rfl rfl ?_
 intro _ _
 simp +contextual only [go_sem,aD,sevalprocAttr]
 (repeat' split)<;>(refine ak aF.rfl' ?_;refine cN ?_;simp only [rE];grind)
def lH (c:Int):Bool:=(decide (97<=c) && decide (c<=122)) || decide (c=95)
def jw (c:Int):Bool:=decide (48<=c) && decide (c<=57)
theorem rK (c:Int)(M:aS):Ct Tryz.prog 66 [.int .u8 c] M [] [] (fun r _ _ _=>r=.bool (lH c)) aM:=by
 intro T
 refine az F66 rfl rfl ?_
 intro _ _
 simp +contextual only [go_sem,sevalprocAttr]
 refine ak aF.rfl' ?_
 simp [lH]
theorem oH (c:Int)(M:aS):Ct Tryz.prog 69 [.int .u8 c] M [] [] (fun r _ _ _=>r=.bool (jw c)) aM:=by
 intro T
 refine az F69 rfl rfl ?_
 intro _ _
 simp +contextual only [go_sem,sevalprocAttr]
 refine ak aF.rfl' ?_
 simp [jw]
theorem VO (c:Int)(M:aS):Ct Tryz.prog 68 [.int .u8 c] M [] [] (fun r _ _ _=>r=.bool (lH c || jw c)) aM:=by
 intro T
 refine az F68 rfl rfl ?_
 intro _ _
 simp +contextual only [go_sem,sevalprocAttr]
 refine aI (rK c M T) ?_
 rintro v M' hM bi rfl
 simp +contextual only [go_sem,sevalprocAttr]
 split
 ·rename_i h
  exact ak aF.rfl' (by simp)
 ·rename_i h
  refine aI (oH c M' T) ?_
  rintro v M'' nj ui rfl
  simp +contextual only [go_sem,sevalprocAttr,h]
  exact ak aF.rfl' (by simp)
structure Tk where
 k:Int
 s:Bs
 at_:Int
def vP (s:Bs):Bool:=decide (1<=s.length/\s.length<=16) && s.all fun c=>jw c.toNat
def gC (t:Tk)(cs:List Value):Prop:=cs=[.int .i64 t.k,st t.s,.int .i64 t.at_]/\(t.k=2 ->vP t.s=true)
theorem qW {t:Tk}{cs}(h:gC t cs):cs.length=3:=by obtain ⟨rfl,_⟩:=h;rfl
def rN (e a:Int):List PanicEntry:=[{v:=.iface 75 (.agg #[.int .i64 e,.int .i64 a]),recovered:=false}]
theorem gI (e a:Int)(M:aS):Ct Tryz.prog 24 [.int .i64 e,.int .i64 a] M [] [] (fun _ _ _ _=>False) (fun ch _ _ _=>ch=rN e a):=by
 intro T
 refine az F24 rfl rfl ?_
 intro _ _
 simp +contextual only [go_sem,sevalprocAttr]
 exact ak aF.rfl' rfl
def pf (en:Int):List Tk ->Int | []=>en | t::_=>t.at_
def bD (s:Bs):List Tk ->Bool | []=>false | t::_=>decide (t.s=s) && (decide (t.k=1) || decide (t.k=4))
theorem abm {M:aS}{b o:Nat}{t:Tk}{cs}(h:gC t cs)(ha:At M b o cs):aN M ⟨b,o,none⟩=some (.int .i64 t.k)/\aN M ⟨b,o+1,none⟩=some (st t.s)/\aN M ⟨b,o+2,none⟩=some (.int .i64 t.at_):=by
 obtain ⟨rfl,_⟩:=h
 exact ⟨ha.1,ha.2.1,ha.2.2.1⟩
theorem jx {M:aS}{aU:List Tk}{lv:Value}(h:RS M gC 3 aU lv):
 (aU=[]/\∃ a c,lv=.slice a 0 c)\/∃ t r b o c,aU=t::r/\lv=.slice (some ⟨b,o,none⟩) (r.length+1) c/\r.length+1<=c/\
  aN M ⟨b,o,none⟩=some (.int .i64 t.k)/\aN M ⟨b,o+1,none⟩=some (st t.s)/\aN M ⟨b,o+2,none⟩=some (.int .i64 t.at_):=by
 obtain ⟨hb,a,c,rfl,di,_,gO⟩:=ax (by decide) (fun _ _=>qW) h
 cases aU with
 | nil=>exact .inl ⟨rfl,a,c,rfl⟩
 | cons t r=>
  obtain ⟨b,o,cs,rfl,ha,hr⟩:=gO 0 t rfl
  have:=abm hr ha
  simp only [Nat.zero_mul,Nat.add_zero] at this
  exact .inr ⟨t,r,b,o,c,rfl,rfl,di,this⟩
theorem TS {M:aS}{t:Tk}{r:List Tk}{lv:Value}(h:RS M gC 3 (t::r) lv)(hk:t.k=2):vP t.s=true:=by
 obtain ⟨_,xs,_,hl⟩:=h
 obtain ⟨cs,rest,_,h1,_⟩:=hl
 exact h1.2 hk
theorem Md {M:aS}{pb:Nat}{aU:List Tk}{lv:Value}{en op:Int}(hl:RS M gC 3 aU lv):
 Ct Tryz.prog 25 [.pointer (some ⟨pb,0,none⟩)] M (pL pb lv en op) [] (fun r M' L' R'=>r=.int .i64 (pf en aU)/\M'=M/\L'=pL pb lv en op/\R'=[]) aM:=by
 intro T
 refine az F25 rfl rfl ?_
 intro bi _
 simp only [aK] at bi
 rcases jx hl with ⟨rfl,a,c,rfl⟩ | ⟨t,r,b,o,c,rfl,rfl,hc,h0,h1,h2⟩
 ·simp +contextual only [go_sem,aD,sevalprocAttr,bi]
  exact aQ aF.rfl' rfl rfl ⟨rfl,rfl,rfl,rfl⟩
 ·simp +contextual only [go_sem,aD,sevalprocAttr,bi,h2]
  exact aQ aF.rfl' rfl rfl ⟨rfl,rfl,rfl,rfl⟩
theorem AQ {M:aS}{pb:Nat}{aU:List Tk}{lv:Value}{en op:Int}(s:Bs)(hl:RS M gC 3 aU lv):
 Ct Tryz.prog 74 [.pointer (some ⟨pb,0,none⟩),st s] M (pL pb lv en op) [] (fun r M' L' R'=>r=.bool (bD s aU)/\M'=M/\L'=pL pb lv en op/\R'=[]) aM:=by
 intro T
 refine az F74 rfl rfl ?_
 intro bi _
 simp only [aK] at bi
 rcases jx hl with ⟨rfl,a,c,rfl⟩ | ⟨t,r,b,o,c,rfl,rfl,hc,h0,h1,h2⟩
 ·simp +contextual only [go_sem,sevalprocAttr,bi]
  exact aQ aF.rfl' rfl rfl ⟨rfl,rfl,rfl,rfl⟩
 ·simp +contextual only [go_sem,sevalprocAttr,bi,h0,h1]
  refine aQ aF.rfl' rfl rfl ⟨?_,rfl,rfl,rfl⟩
  simp [bD]
theorem LB {M:aS}{pb:Nat}{aU:List Tk}{lv:Value}{en op:Int}(s:Bs)(hl:RS M gC 3 aU lv):
 Ct Tryz.prog 41 [.pointer (some ⟨pb,0,none⟩),st s] M (pL pb lv en op) [] (fun r M' L' R'=>r=.bool (bD s aU)/\M'=M/\R'=[]/\∃ lv',L'=pL pb lv' en op/\RS M gC 3 (if bD s aU=true then aU.tail else aU) lv') aM:=by
 intro T
 refine az F41 rfl rfl ?_
 intro bi _
 simp +contextual only [go_sem,sevalprocAttr]
 refine gu [] (pL pb lv en op) [] [] [] [] (AQ s hl T) ?_ (fun _ _ _ _ _ _ _ _ h=>h.elim)
 rintro v M' L' R' hM _ _ ui ⟨rfl,rfl,rfl,rfl⟩
 simp only [aK] at bi
 by_cases hs:bD s aU=true
 ·rcases jx hl with ⟨rfl,a,c,rfl⟩ | ⟨t,r,b,o,c,rfl,rfl,hc,h0,h1,h2⟩
  ·cases hs
  ·have Pe:(1:Int)<=((r.length+1:Nat):Int)/\r.length+1<=c:=⟨by omega,hc⟩
   simp +contextual only [go_sem,aD,sevalprocAttr,bi,hs,Pe]
   refine aQ aF.rfl' rfl rfl ?_
   refine ⟨rfl,rfl,rfl,_,rfl,?_⟩
   have:=nh (k:=1) (by decide) (fun _ _=>qW) hl (by simp)
   simpa using this
 ·simp +contextual only [go_sem,aD,sevalprocAttr,hs]
  exact aQ aF.rfl' rfl rfl ⟨rfl,rfl,rfl,_,rfl,hl⟩
inductive Rs (α:Type) where
 | ok (a:α) (r:List Tk)
 | err (e a:Int)
 | out
def fH {α:Type}(pb:Nat)(en op:Int)(enc:α ->Value ->aS ->Prop)(res:Rs α):eu:=fun v M' L' R'=>∃ a r lv',res=.ok a r/\L'=pL pb lv' en op/\RS M' gC 3 r lv'/\R'=[]/\enc a v M'
def gl {α:Type}(pb:Nat)(en:Int)(res:Rs α):mX:=fun ch _ L' R'=>∃ e a lv' op',res=.err e a/\ch=rN e a/\L'=pL pb lv' en op'/\R'=[]
def bZ (en:Int):List Bs ->List Tk ->Rs Unit
 | [],t=> .ok () t
 | s::l,t=>if bD s t=true then bZ en l t.tail else .err 2 (pf en t)
theorem gH {N M R}{k:Sh ->Prop}{Lp:LL}:∀ (L1:LL),cq ⟨N,M,Lp,R⟩ k ->cq ⟨N,M,L1++Lp,R⟩ k
 | [],h=>h
 | (_,_)::L1,h=>al (gH L1 h)
section
variable {α:Type} {T N:Tm} {M:aS} {R:RR} {dr:List (Nat×Sched)} {ts:List ResultVar} {post:eu} {pb:Nat} {lv0 lv:Value} {en op0 op:Int} {d:Option Nat} {s:List Vc.Item} {e:dp} {aU:List Tk} {F:Fi} {ds:List Deferred} {L1 L2:LL}
theorem Ky {res:Rs α}{c a:Int}(L1:LL)(hT:aF T N)(h:res=.err c a):(fi Tryz.prog T dr ts (aY (pL pb lv0 en op0)) 0 post (gl pb en res)).pan (rN c a) e [] ⟨N,M,L1++pL pb lv en op,R⟩:=by
 rw [l7,j2]
 exact gH L1 (bW (aQ hT rfl rfl ⟨c,a,lv,op,h,rfl,rfl,rfl⟩))
theorem fy {res:Rs α}{c a:Int}(L1:LL)(hT:aF T N)(h:res=.err c a):dx Tryz.prog (fi Tryz.prog T dr ts (aY (pL pb lv0 en op0)) 0 post (gl pb en res)) 24 [.int .i64 c,.int .i64 a] d s e [] ⟨N,M,L1++pL pb lv en op,R⟩ ⟨⟩:=by
 refine bT (gI c a M N) (fun _ _ _ _ h=>h.elim) ?_
 rintro ch M4 dD de rfl
 exact Ky L1 hT h
theorem mp (L1:LL)(hl:RS M gC 3 aU lv)(k:cy Tryz.prog F s (cI e d (.int .i64 (pf en aU))) ds ⟨N,M,L1++pL pb lv en op,R⟩ ⟨⟩):
 dx Tryz.prog F 25 [.pointer (some ⟨pb,0,none⟩)] d s e ds ⟨N,M,L1++pL pb lv en op,R⟩ ⟨⟩:=by
 refine dC L1 (Md hl N) (fun v M' L' _ _ bi h=> ?_) (fun _ _ _ _ _ _ h=>h.elim)
 obtain ⟨rfl,rfl,rfl, -⟩:=h
 exact k
theorem aaN (L1:LL)(x:Bs)(hl:RS M gC 3 aU lv)(k:cy Tryz.prog F s (cI e d (.bool (bD x aU))) ds ⟨N,M,L1++pL pb lv en op,R⟩ ⟨⟩):
 dx Tryz.prog F 74 [.pointer (some ⟨pb,0,none⟩),.string (bs x)] d s e ds ⟨N,M,L1++pL pb lv en op,R⟩ ⟨⟩:=by
 refine dC L1 (AQ x hl N) (fun v M' L' _ _ bi h=> ?_) (fun _ _ _ _ _ _ h=>h.elim)
 obtain ⟨rfl,rfl,rfl, -⟩:=h
 exact k
theorem GS (L1:LL)(x:Bs)(hl:RS M gC 3 aU lv)(k:∀ lv',RS M gC 3 (if bD x aU=true then aU.tail else aU) lv' ->cy Tryz.prog F s (cI e d (.bool (bD x aU))) ds ⟨N,M,L1++pL pb lv' en op,R⟩ ⟨⟩):
 dx Tryz.prog F 41 [.pointer (some ⟨pb,0,none⟩),.string (bs x)] d s e ds ⟨N,M,L1++pL pb lv en op,R⟩ ⟨⟩:=by
 refine dC L1 (LB x hl N) (fun v M' L' _ _ bi h=> ?_) (fun _ _ _ _ _ _ h=>h.elim)
 obtain ⟨rfl,rfl, -,lv',rfl,jm⟩:=h
 exact k lv' jm
theorem iz (L1:LL)(x:Bs)(hl:RS M gC 3 aU lv)(k1:bD x aU=true ->∀ lv',RS M gC 3 aU.tail lv' ->cy Tryz.prog F s (cI e d (.bool true)) ds ⟨N,M,L1++pL pb lv' en op,R⟩ ⟨⟩)
 (k2:bD x aU=false ->∀ lv',RS M gC 3 aU lv' ->cy Tryz.prog F s (cI e d (.bool false)) ds ⟨N,M,L1++pL pb lv' en op,R⟩ ⟨⟩):
 dx Tryz.prog F 41 [.pointer (some ⟨pb,0,none⟩),.string (bs x)] d s e ds ⟨N,M,L1++pL pb lv en op,R⟩ ⟨⟩:=by
 refine GS L1 x hl fun lv' jm=> ?_
 cases hs:bD x aU with
 | true=>exact k1 hs lv' (by simpa [hs] using jm)
 | false=>exact k2 hs lv' (by simpa [hs] using jm)
theorem sO {f:FuncId}{args:List Value}{enc:α ->Value ->aS ->Prop}{res:Rs α}(L1:LL)(hc:bV Tryz.prog f args N M (pL pb lv en op) [] (fH pb en op enc res) (gl pb en res))
 (k:∀ v M' a r lv',bm M M' ->aJ M' (L1++pL pb lv' en op) ->res=.ok a r ->RS M' gC 3 r lv' ->enc a v M' ->cy Tryz.prog F s (cI e d v) ds ⟨N,M',L1++pL pb lv' en op,R⟩ ⟨⟩)
 (kp:∀ c a M' lv' op',bm M M' ->res=.err c a ->F.pan (rN c a) e ds ⟨N,M',L1++pL pb lv' en op',R⟩):
 dx Tryz.prog F f args d s e ds ⟨N,M,L1++pL pb lv en op,R⟩ ⟨⟩:=by
 refine dC L1 hc (fun v M' L' hM _ bi h=> ?_) (fun ch M' L' hM _ bi h=> ?_)
 ·obtain ⟨a,r,lv',am,rfl,hr, -,he⟩:=h
  exact k v M' a r lv' hM bi am hr he
 ·obtain ⟨c,a,lv',op',am,rfl,rfl, -⟩:=h
  exact kp c a M' lv' op' hM am
end
theorem vi {M:aS}{pb:Nat}{aU:List Tk}{lv sv:Value}{en op:Int}{l:List Bs}(hl:RS M gC 3 aU lv)(hs:RS M rj 1 l sv):
 Ct Tryz.prog 27 [.pointer (some ⟨pb,0,none⟩),sv] M (pL pb lv en op) [] (fH pb en op (fun _ v _=>v=.tuple #[]) (bZ en l aU)) (gl pb en (bZ en l aU)):=by
 intro T
 obtain ⟨hb,a,c,rfl,di,_,gO⟩:=ax (by decide) (fun _ _=>ff) hs
 refine az F27 rfl rfl ?_
 intro bi _
 simp +contextual only [go_sem,aD,sevalprocAttr]
 refine aO l.length 8 [(0,.pointer (some ⟨pb,0,none⟩)),(6,.slice a l.length c),(7,.int .i64 l.length)] (fun i e h=>∃ M' toks' lv',bm M M'/\h=⟨T,M',pL pb lv' en op,[]⟩/\M' pb=none/\RS M' gC 3 toks' lv'/\bZ en l aU=bZ en (l.drop i) toks') 0 (by omega) (by simp only [aE,go_sem,sevalprocAttr]) (by simp only [go_sem,sevalprocAttr]) ⟨M,aU,lv,bm.rfl',rfl,by simpa only [aK] using bi,hl,by simp⟩ ?_
 rintro i e h hi aG ht ⟨M',toks',lv',hM,rfl,ui,jm,am⟩
 simp only [aE] at aG
 by_cases aL:i<l.length
 ·obtain ⟨b,o,cs,rfl,bQ,cG⟩:=gO i l[i] (gq aL)
  unfold rj at cG;subst cG
  have hx:=ay hM bQ.1
  rw [Nat.mul_one] at hx
  simp +contextual only [go_sem,aD,sevalprocAttr,aG,ht,aL,hx]
  refine gu [] (pL pb lv' en op) [] [] [] [] (LB l[i] jm T) ?_ (fun _ _ _ _ _ _ _ _ h=>h.elim)
  rintro v M'' L' R' nj _ _ Y7 ⟨rfl,rfl,rfl,lv'',rfl,abF⟩
  have bK:l.drop i=l[i]::l.drop (i+1):=dq aL
  rw [bK] at am
  by_cases hs:bD l[i] toks'=true
  ·simp +contextual only [go_sem,aD,sevalprocAttr,ht,hs]
   refine ce aL ?_ ?_ ⟨M'',toks'.tail,lv'',hM,rfl,ui,by simpa [hs] using abF,by simpa [bZ,hs] using am⟩
   ·simp only [aE,aG,go_sem,sevalprocAttr]
   ·simp only [go_sem,sevalprocAttr,aA i (by omega)]
  ·simp +contextual only [go_sem,aD,sevalprocAttr,aG,hs]
   simp only [hs] at abF
   refine gu [] (pL pb lv'' en op) [] [] [] [] (Md abF T) ?_ (fun _ _ _ _ _ _ _ _ h=>h.elim)
   rintro v M3 L' R' bE _ _ bB ⟨rfl,rfl,rfl,rfl⟩
   simp +contextual only [go_sem,sevalprocAttr,hs]
   refine fy [] aF.rfl' ?_
   rw [am]
   simp [bZ,hs]
 ·have:i=l.length:=by omega
  subst this
  simp +contextual only [go_sem,aD,sevalprocAttr,aG,ht,aL]
  refine aQ aF.rfl' rfl rfl ⟨(),toks',lv',?_,rfl,jm,rfl,rfl⟩
  rw [am]
  simp [bZ]
def zX (x:Bs):List Bs ->Int
 | []=> -1
 | s::l=>if s=x then 0 else if zX x l<0 then -1 else zX x l+1
def oA (x:Bs)(l:List Bs)(i:Nat):Int:=if zX x (l.drop i)<0 then -1 else zX x (l.drop i)+i
theorem SB {M:aS}{l:List Bs}{sv:Value}(x:Bs)(hs:RS M rj 1 l sv):
 Ct Tryz.prog 183 [sv,st x] M [] [] (fun r _ _ _=>r=.int .i64 (oA x l 0)) aM:=by
 intro T
 obtain ⟨hb,a,c,rfl,di,_,gO⟩:=ax (by decide) (fun _ _=>ff) hs
 refine az akZ rfl rfl ?_
 intro bi _
 simp +contextual only [go_sem,aD,sevalprocAttr]
 refine aO l.length 8 [(0,.slice a l.length c),(1,st x),(6,.slice a l.length c),(7,.int .i64 l.length)] (fun i e h=>h=⟨T,M,[],[]⟩/\oA x l 0=oA x l i) 0 (by omega) (by simp only [aE,go_sem,sevalprocAttr]) (by simp only [go_sem,sevalprocAttr]) ⟨rfl,rfl⟩ ?_
 rintro i e h hi aG ht ⟨rfl,am⟩
 simp only [aE,st] at aG
 by_cases aL:i<l.length
 ·obtain ⟨b,o,cs,rfl,bQ,cG⟩:=gO i l[i] (gq aL)
  unfold rj at cG;subst cG
  have hx:=bQ.1
  rw [Nat.mul_one] at hx
  have bK:l.drop i=l[i]::l.drop (i+1):=dq aL
  simp +contextual only [go_sem,aD,sevalprocAttr,aG,ht,aL,hx]
  split
  ·rename_i he
   refine ak aF.rfl' ?_
   rw [he] at am
   rw [am]
   unfold oA
   rw [bK]
   simp only [zX,if_true]
   simp
  ·rename_i he
   refine ce aL ?_ ?_ ⟨rfl,?_⟩
   ·simp only [aE,aG,go_sem,sevalprocAttr]
   ·simp only [go_sem,sevalprocAttr,aA i (by omega)]
   ·rw [am]
    simp only [oA,bK,zX,if_neg (Ne.symm he)]
    split<;>split<;>omega
 ·have:i=l.length:=by omega
  subst this
  simp +contextual only [go_sem,aD,sevalprocAttr,aG,ht,aL]
  refine ak aF.rfl' ?_
  rw [am]
  simp [oA,zX]
theorem Rr (x:Bs)(l:List Bs):(0<=zX x l) ↔ x∈l:=by
 induction l with
 | nil=>simp [zX]
 | cons s l ih=>
  simp only [zX,List.mem_cons]
  split
  ·rename_i h;simp [h]
  ·rename_i h
   have hx:x≠s:=fun he=>h he.symm
   rw [show (x=s\/x∈l) ↔ x∈l from by simp [hx],<- ih]
   split<;>omega
theorem qw {M:aS}{l:List Bs}{sv:Value}(x:Bs)(hs:RS M rj 1 l sv):
 Ct Tryz.prog 118 [sv,st x] M [] [] (fun r _ _ _=>r=.bool (l.contains x)) aM:=by
 intro T
 refine az aem rfl rfl ?_
 intro bi _
 simp +contextual only [go_sem,sevalprocAttr]
 refine aI (SB x hs T) ?_
 rintro v M' hM bi rfl
 simp +contextual only [go_sem,sevalprocAttr]
 refine ak aF.rfl' ?_
 simp only [oA,List.drop_zero]
 have:=Rr x l
 by_cases hm:x∈l
 ·have h0:=this.2 hm
  rw [if_neg (by omega)]
  simp [hm,h0]
 ·have h0:¬ 0<=zX x l:=fun h=>hm (this.1 h)
  rw [if_pos (by omega)]
  simp [hm]
end Go.Proofs.YtmeeifechggoeaaGreatDoor
namespace Go.Proofs
open Go.Shelf
def Tryz.lays137_ren:Go.Shelf.Ren:=⟨fun | 137=>39 | 217=>65 | 266=>115 | n=>n,fun | 9=>9 | 5=>5 | 3=>3 | n=>n,fun | n=>n⟩
theorem Tryz.lays137:Go.Proofs.Lays.n137 Tryz.prog Tryz.lays137_ren:={
 mixed:=by kernel_rfl
 f137:=Tryz.func39.trans (congrArg some (by kernel_rfl))
 f217:=Tryz.func65.trans (congrArg some (by kernel_rfl))
 f266:=Tryz.func115.trans (congrArg some (by kernel_rfl))
 t3:=Tryz.underlying3
 a3:=Tryz.isAgg3
 z3:=Tryz.sizeOf3
 v3:=Tryz.zeroValue3
 t5:=Tryz.underlying5
 a5:=Tryz.isAgg5
 z5:=Tryz.sizeOf5
 v5:=Tryz.zeroValue5
 t9:=Tryz.underlying9
 a9:=Tryz.isAgg9
 z9:=Tryz.sizeOf9
 v9:=Tryz.zeroValue9}
open Go.RowKit in
theorem Tryz.strings_IndexByte (s:ByteArray)(c:Int)(w:World):
 Calls Tryz.prog 39 #[.string s,.int .u8 c] w fun e w'=>e=.returned (.int .i64 (Lib.indexByte s.data.toList c.toNat.toUInt8))/\w'=w:=Any.strings_IndexByte Tryz.lays137 s c w
def Tryz.laysC174_ren:Go.Shelf.Ren:=⟨fun | 174=>124 | 247=>185 | 245=>186 | 287=>224 | 279=>225 | 280=>226 | 281=>227 | 282=>228 | 321=>253 | 322=>254 | 316=>255 | 171=>199 | 205=>256 | 243=>231 | 246=>257 | 283=>288 | 284=>289 | 285=>290 | 286=>291 | 129=>311 | 317=>310 | 318=>312 | 319=>313 | 320=>314 | 337=>329 | 338=>330 | n=>n,fun | 9=>9 | 3=>3 | 2=>2 | 75=>150 | 85=>221 | 4=>4 | 167=>329 | 5=>5 | 53=>330 | 175=>331 | 46=>333 | 168=>334 | 37=>146 | 0=>0 | 210=>359 | 21=>21 | 127=>211 | 145=>397 | 143=>395 | 171=>398 | 173=>401 | 212=>420 | 51=>353 | 20=>20 | 213=>421 | 232=>444 | 233=>445 | 80=>106 | n=>n,fun | 15=>3 | 16=>4 | 17=>5 | 18=>6 | 19=>7 | n=>n⟩
theorem Tryz.laysC174:Go.Proofs.LaysC.n174 Tryz.prog Tryz.laysC174_ren:={
 mixed:=by kernel_rfl
 f129:=Tryz.func311.trans (congrArg some (by kernel_rfl))
 f171:=Tryz.func199.trans (congrArg some (by kernel_rfl))
 f174:=Tryz.func124.trans (congrArg some (by kernel_rfl))
 f205:=Tryz.func256.trans (congrArg some (by kernel_rfl))
 f243:=Tryz.func231.trans (congrArg some (by kernel_rfl))
 f245:=Tryz.func186.trans (congrArg some (by kernel_rfl))
 f246:=Tryz.func257.trans (congrArg some (by kernel_rfl))
 f247:=Tryz.func185.trans (congrArg some (by kernel_rfl))
 f279:=Tryz.func225.trans (congrArg some (by kernel_rfl))
 f280:=Tryz.func226.trans (congrArg some (by kernel_rfl))
 f281:=Tryz.func227.trans (congrArg some (by kernel_rfl))
 f282:=Tryz.func228.trans (congrArg some (by kernel_rfl))
 f283:=Tryz.func288.trans (congrArg some (by kernel_rfl))
 f284:=Tryz.func289.trans (congrArg some (by kernel_rfl))
 f285:=Tryz.func290.trans (congrArg some (by kernel_rfl))
 f286:=Tryz.func291.trans (congrArg some (by kernel_rfl))
 f287:=Tryz.func224.trans (congrArg some (by kernel_rfl))
 f316:=Tryz.func255.trans (congrArg some (by kernel_rfl))
 f317:=Tryz.func310.trans (congrArg some (by kernel_rfl))
 f318:=Tryz.func312.trans (congrArg some (by kernel_rfl))
 f319:=Tryz.func313.trans (congrArg some (by kernel_rfl))
 f320:=Tryz.func314.trans (congrArg some (by kernel_rfl))
 f321:=Tryz.func253.trans (congrArg some (by kernel_rfl))
 f322:=Tryz.func254.trans (congrArg some (by kernel_rfl))
 f337:=Tryz.func329.trans (congrArg some (by kernel_rfl))
 f338:=Tryz.func330.trans (congrArg some (by kernel_rfl))
 t0:=Tryz.underlying0
 a0:=Tryz.isAgg0
 z0:=Tryz.sizeOf0
 v0:=Tryz.zeroValue0
 t2:=Tryz.underlying2
 a2:=Tryz.isAgg2
 z2:=Tryz.sizeOf2
 v2:=Tryz.zeroValue2
 t3:=Tryz.underlying3
 a3:=Tryz.isAgg3
 z3:=Tryz.sizeOf3
 v3:=Tryz.zeroValue3
 t4:=Tryz.underlying4
 a4:=Tryz.isAgg4
 z4:=Tryz.sizeOf4
 v4:=Tryz.zeroValue4
 t5:=Tryz.underlying5
 a5:=Tryz.isAgg5
 z5:=Tryz.sizeOf5
 v5:=Tryz.zeroValue5
 t9:=Tryz.underlying9
 a9:=Tryz.isAgg9
 z9:=Tryz.sizeOf9
 v9:=Tryz.zeroValue9
 t20:=Tryz.underlying20
 a20:=Tryz.isAgg20
 z20:=Tryz.sizeOf20
 v20:=Tryz.zeroValue20
 t21:=Tryz.underlying21
 a21:=Tryz.isAgg21
 z21:=Tryz.sizeOf21
 v21:=Tryz.zeroValue21
 t37:=Tryz.underlying146
 a37:=Tryz.isAgg146
 z37:=Tryz.sizeOf146
 v37:=Tryz.zeroValue146
 t46:=Tryz.underlying333
 a46:=Tryz.isAgg333
 z46:=Tryz.sizeOf333
 v46:=Tryz.zeroValue333
 t51:=Tryz.underlying353
 a51:=Tryz.isAgg353
 z51:=Tryz.sizeOf353
 v51:=Tryz.zeroValue353
 t53:=Tryz.underlying330
 a53:=Tryz.isAgg330
 z53:=Tryz.sizeOf330
 v53:=Tryz.zeroValue330
 t75:=Tryz.underlying150
 a75:=Tryz.isAgg150
 z75:=Tryz.sizeOf150
 v75:=Tryz.zeroValue150
 t85:=Tryz.underlying221
 a85:=Tryz.isAgg221
 z85:=Tryz.sizeOf221
 v85:=Tryz.zeroValue221
 t127:=Tryz.underlying211
 a127:=Tryz.isAgg211
 z127:=Tryz.sizeOf211
 v127:=Tryz.zeroValue211
 t143:=Tryz.underlying395
 a143:=Tryz.isAgg395
 z143:=Tryz.sizeOf395
 v143:=Tryz.zeroValue395
 t145:=Tryz.underlying397
 a145:=Tryz.isAgg397
 z145:=Tryz.sizeOf397
 v145:=Tryz.zeroValue397
 t167:=Tryz.underlying329
 a167:=Tryz.isAgg329
 z167:=Tryz.sizeOf329
 v167:=Tryz.zeroValue329
 t168:=Tryz.underlying334
 a168:=Tryz.isAgg334
 z168:=Tryz.sizeOf334
 v168:=Tryz.zeroValue334
 t171:=Tryz.underlying398
 a171:=Tryz.isAgg398
 z171:=Tryz.sizeOf398
 v171:=Tryz.zeroValue398
 t173:=Tryz.underlying401
 a173:=Tryz.isAgg401
 z173:=Tryz.sizeOf401
 v173:=Tryz.zeroValue401
 t175:=Tryz.underlying331
 a175:=Tryz.isAgg331
 z175:=Tryz.sizeOf331
 v175:=Tryz.zeroValue331
 t210:=Tryz.underlying359
 a210:=Tryz.isAgg359
 z210:=Tryz.sizeOf359
 v210:=Tryz.zeroValue359
 t212:=Tryz.underlying420
 a212:=Tryz.isAgg420
 z212:=Tryz.sizeOf420
 v212:=Tryz.zeroValue420
 t213:=Tryz.underlying421
 a213:=Tryz.isAgg421
 z213:=Tryz.sizeOf421
 t232:=Tryz.underlying444
 a232:=Tryz.isAgg444
 z232:=Tryz.sizeOf444
 v232:=Tryz.zeroValue444
 t233:=Tryz.underlying445
 a233:=Tryz.isAgg445
 z233:=Tryz.sizeOf445
 v233:=Tryz.zeroValue445
 g15:=by kernel_rfl
 g16:=by kernel_rfl
 g17:=by kernel_rfl
 g18:=by kernel_rfl
 g19:=by kernel_rfl
 t80:=Tryz.underlying106
 a80:=Tryz.isAgg106
 z80:=Tryz.sizeOf106
 v80:=Tryz.zeroValue106
 i0:=by kernel_rfl
 i2:=by kernel_rfl
 i3:=by kernel_rfl
 i4:=by kernel_rfl
 i5:=by kernel_rfl
 i9:=by kernel_rfl
 i20:=by kernel_rfl
 i21:=by kernel_rfl
 i37:=by kernel_rfl
 i46:=by kernel_rfl
 i51:=by kernel_rfl
 i53:=by kernel_rfl
 i75:=by kernel_rfl
 i80:=by kernel_rfl
 i85:=by kernel_rfl
 i127:=by kernel_rfl
 i143:=by kernel_rfl
 i145:=by kernel_rfl
 i167:=by kernel_rfl
 i168:=by kernel_rfl
 i171:=by kernel_rfl
 i173:=by kernel_rfl
 i175:=by kernel_rfl
 i210:=by kernel_rfl
 i212:=by kernel_rfl
 i232:=by kernel_rfl
 i233:=by kernel_rfl
 m15:=by kernel_rfl
 m16:=by kernel_rfl
 m17:=by kernel_rfl
 m18:=by kernel_rfl
 m19:=by kernel_rfl
 c0:=by kernel_rfl
 c2:=by kernel_rfl
 c3:=by kernel_rfl
 c4:=by kernel_rfl
 c5:=by kernel_rfl
 c9:=by kernel_rfl
 c20:=by kernel_rfl
 c21:=by kernel_rfl
 c37:=by kernel_rfl
 c46:=by kernel_rfl
 c51:=by kernel_rfl
 c53:=by kernel_rfl
 c75:=by kernel_rfl
 c80:=by kernel_rfl
 c85:=by kernel_rfl
 c127:=by kernel_rfl
 c143:=by kernel_rfl
 c145:=by kernel_rfl
 c167:=by kernel_rfl
 c168:=by kernel_rfl
 c171:=by kernel_rfl
 c173:=by kernel_rfl
 c175:=by kernel_rfl
 c210:=by kernel_rfl
 c212:=by kernel_rfl
 c213:=by kernel_rfl
 c232:=by kernel_rfl
 c233:=by kernel_rfl}
open Go.RowKit in
theorem Tryz.strconv_ParseInt_10_at64_ok (s:ByteArray)(ahf:s.size<=9223372036854775806)(v:Int)(h:Lib.parseIntB 64 s.data.toList=.ok v)(w:World):
 Calls Tryz.prog 124 #[.string s,.int .i64 10,.int .i64 64] w fun e w'=>e=.returned (.tuple #[.int .i64 v,.nilIface])/\(w'=w\/∃ t,w'=Lib.bytesWorld w 5 t):=Any.strconv_ParseInt_10_at64_ok Tryz.laysC174 s ahf v h w
def Tryz.lays157_ren:Go.Shelf.Ren:=⟨fun | 157=>184 | 229=>222 | 199=>223 | 261=>252 | 311=>286 | 312=>287 | n=>n,fun | 9=>9 | 31=>63 | 3=>3 | 5=>5 | 4=>4 | 119=>326 | 0=>0 | 40=>328 | 152=>350 | 21=>21 | 154=>352 | 51=>353 | 141=>355 | 196=>387 | 193=>384 | 198=>390 | 49=>388 | 194=>385 | 201=>393 | 226=>417 | 46=>333 | 227=>418 | n=>n,fun | 0=>1 | 6=>2 | n=>n⟩
theorem Tryz.lays157:Go.Proofs.Lays.n157 Tryz.prog Tryz.lays157_ren:={
 mixed:=by kernel_rfl
 f157:=Tryz.func184.trans (congrArg some (by kernel_rfl))
 f199:=Tryz.func223.trans (congrArg some (by kernel_rfl))
 f229:=Tryz.func222.trans (congrArg some (by kernel_rfl))
 f261:=Tryz.func252.trans (congrArg some (by kernel_rfl))
 f311:=Tryz.func286.trans (congrArg some (by kernel_rfl))
 f312:=Tryz.func287.trans (congrArg some (by kernel_rfl))
 t0:=Tryz.underlying0
 a0:=Tryz.isAgg0
 z0:=Tryz.sizeOf0
 v0:=Tryz.zeroValue0
 t3:=Tryz.underlying3
 a3:=Tryz.isAgg3
 z3:=Tryz.sizeOf3
 v3:=Tryz.zeroValue3
 t4:=Tryz.underlying4
 a4:=Tryz.isAgg4
 z4:=Tryz.sizeOf4
 v4:=Tryz.zeroValue4
 t5:=Tryz.underlying5
 a5:=Tryz.isAgg5
 z5:=Tryz.sizeOf5
 v5:=Tryz.zeroValue5
 t9:=Tryz.underlying9
 a9:=Tryz.isAgg9
 z9:=Tryz.sizeOf9
 v9:=Tryz.zeroValue9
 t21:=Tryz.underlying21
 a21:=Tryz.isAgg21
 z21:=Tryz.sizeOf21
 v21:=Tryz.zeroValue21
 t31:=Tryz.underlying63
 a31:=Tryz.isAgg63
 z31:=Tryz.sizeOf63
 v31:=Tryz.zeroValue63
 t40:=Tryz.underlying328
 a40:=Tryz.isAgg328
 z40:=Tryz.sizeOf328
 v40:=Tryz.zeroValue328
 t46:=Tryz.underlying333
 a46:=Tryz.isAgg333
 z46:=Tryz.sizeOf333
 v46:=Tryz.zeroValue333
 t49:=Tryz.underlying388
 a49:=Tryz.isAgg388
 z49:=Tryz.sizeOf388
 v49:=Tryz.zeroValue388
 t51:=Tryz.underlying353
 a51:=Tryz.isAgg353
 z51:=Tryz.sizeOf353
 v51:=Tryz.zeroValue353
 t119:=Tryz.underlying326
 a119:=Tryz.isAgg326
 z119:=Tryz.sizeOf326
 t141:=Tryz.underlying355
 a141:=Tryz.isAgg355
 z141:=Tryz.sizeOf355
 v141:=Tryz.zeroValue355
 t152:=Tryz.underlying350
 a152:=Tryz.isAgg350
 z152:=Tryz.sizeOf350
 v152:=Tryz.zeroValue350
 t154:=Tryz.underlying352
 a154:=Tryz.isAgg352
 z154:=Tryz.sizeOf352
 v154:=Tryz.zeroValue352
 t193:=Tryz.underlying384
 a193:=Tryz.isAgg384
 z193:=Tryz.sizeOf384
 v193:=Tryz.zeroValue384
 t194:=Tryz.underlying385
 a194:=Tryz.isAgg385
 z194:=Tryz.sizeOf385
 v194:=Tryz.zeroValue385
 t196:=Tryz.underlying387
 a196:=Tryz.isAgg387
 z196:=Tryz.sizeOf387
 v196:=Tryz.zeroValue387
 t198:=Tryz.underlying390
 a198:=Tryz.isAgg390
 z198:=Tryz.sizeOf390
 v198:=Tryz.zeroValue390
 t201:=Tryz.underlying393
 a201:=Tryz.isAgg393
 z201:=Tryz.sizeOf393
 v201:=Tryz.zeroValue393
 t226:=Tryz.underlying417
 a226:=Tryz.isAgg417
 z226:=Tryz.sizeOf417
 v226:=Tryz.zeroValue417
 t227:=Tryz.underlying418
 a227:=Tryz.isAgg418
 z227:=Tryz.sizeOf418
 v227:=Tryz.zeroValue418
 g0:=by kernel_rfl
 g6:=by kernel_rfl}
open Go.RowKit Go.Lib in
theorem Tryz.strings_Fields (s:ByteArray)(w:World)(hs:s.size<4294967281)(aaZ:∀ (j:Nat) b,s.data.toList[j]?=some b ->b.toNat<128)(ajH:Lib.TabIs Tryz.prog w "strings.asciiSpace" .u8 Lib.asciiSpaceTab):
 Calls Tryz.prog 184 #[.string s] w fun e w'=>
  e=.returned (.slice (some ⟨w.heap.size,0,none⟩) (Lib.fields s.data.toList).length (Lib.fields s.data.toList).length)/\w'=w.alloc (.cells ((Lib.fields s.data.toList).map fun l=>Value.string ⟨l.toArray⟩).toArray 9):=Any.strings_Fields Tryz.lays157 (by kernel_rfl) (by kernel_rfl) s w hs aaZ ajH
end Go.Proofs
namespace Go.Proofs.YtmeeifechggoeaaGreatDoor
open Go Vc
set_option maxRecDepth 10000
def zx:List Bs:=[[99,114,101,97,116,101],
 [116,97,98,108,101],
 [118,105,101,119],
 [97,115],
 [105,110,115,101,114,116],
 [105,110,116,111],
 [118,97,108,117,101,115],
 [100,101,108,101,116,101],
 [102,114,111,109],
 [119,104,101,114,101],
 [115,104,111,119],
 [115,101,108,101,99,116],
 [100,105,115,116,105,110,99,116],
 [103,114,111,117,112],
 [98,121],
 [104,97,118,105,110,103],
 [117,110,105,111,110],
 [97,108,108],
 [101,120,99,101,112,116],
 [111,114,100,101,114],
 [108,105,109,105,116],
 [106,111,105,110],
 [108,101,102,116],
 [115,101,109,105],
 [97,110,116,105],
 [111,110],
 [97,110,100],
 [111,114],
 [110,111,116],
 [105,115],
 [110,117,108,108],
 [116,114,117,101],
 [102,97,108,115,101],
 [99,97,115,101],
 [119,104,101,110],
 [116,104,101,110],
 [101,108,115,101],
 [101,110,100],
 [99,111,97,108,101,115,99,101],
 [99,111,117,110,116],
 [115,117,109],
 [109,105,110],
 [109,97,120],
 [105,110,116],
 [116,101,120,116],
 [98,111,111,108]]
def eQ (M:aS):Prop:=∀ g,Tryz.prog.globalNamed "strings.asciiSpace"=some g ->M g=some (Lib.asciiSpaceTab.map fun z=>Value.int .u8 z)
theorem eQ.ext {M M':aS}(h:eQ M)(he:bm M M'):eQ M':=fun g hg=>he _ _ (h g hg)
theorem eQ.tab {M:aS}{w:World}(h:eQ M)(hw:qu M w):Lib.TabIs Tryz.prog w "strings.asciiSpace" .u8 Lib.asciiSpaceTab:=by
 unfold Lib.TabIs World.var?
 cases hg:Tryz.prog.globalNamed "strings.asciiSpace" with
 | none=>
  have h2:(Tryz.prog.globalNamed "strings.asciiSpace").isSome=true:=by kernel_rfl
  rw [hg] at h2;cases h2
 | some g=>
  obtain ⟨t,f,c',ht,hp⟩:=hw g _ (h g hg)
  have hc:c'=[]:=by
   rcases hp with hp | ⟨v,r,hp,hv⟩
   ·exact hp
   ·have h2:=congrArg List.head? hp
    rw [List.head?_map] at h2
    cases h3:Lib.asciiSpaceTab.head? with
    | none=>rw [h3] at h2;simp at h2
    | some z=>rw [h3] at h2;simp at h2;exact absurd h2.symm (hv _ _)
  subst hc
  simp [ht]
theorem Mr {M:aS}(hg:eQ M)(s:Bs)(hs:s.length<4294967281)(ha:s.all (fun b=>b.toNat<128)=true):
 Ct Tryz.prog 184 [st s] M [] [] (fun r M' _ _=>∃ b,r=.slice (some ⟨b,0,none⟩) (Lib.fields s).length (Lib.fields s).length/\M' b=some ((Lib.fields s).map st)) aM:=by
 refine Ud (t:=9) (cs:=(Lib.fields s).map st) (fun b=> .slice (some ⟨b,0,none⟩) (Lib.fields s).length (Lib.fields s).length) ak1.bd fun w hw=> ?_
 have ha':∀ (j:Nat) b,(bs s).data.toList[j]?=some b ->b.toNat<128:=fun j b hj=>by
  have:=List.all_eq_true.1 ha b (List.mem_of_getElem? (by simpa [bs] using hj))
  simpa using this
 have h2:=Tryz.strings_Fields (bs s) w (by rw [CM];exact hs) ha' (hg.tab hw)
 have hd:(bs s).data.toList=s:=by simp [bs]
 rw [hd] at h2
 exact h2
theorem DJ {M:aS}(hg:eQ M):Ct Tryz.prog 119 [] M [] [] (fun r M' _ _=>RS M' rj 1 zx r) aM:=by
 intro T
 refine az ajn rfl rfl ?_
 intro bi _
 simp +contextual only [go_sem,sevalprocAttr]
 refine aI (Mr hg _ (by decide) (by kernel_rfl) T) ?_
 rintro v M' hM _ ⟨b,rfl,hb⟩
 simp +contextual only [go_sem,sevalprocAttr]
 refine ak aF.rfl' ?_
 have hw:∀ {s:Bs},Lib.fields s=zx ->M' b=some ((Lib.fields s).map st) ->RS M' rj 1 zx (.slice (some ⟨b,0,none⟩) (Lib.fields s).length (Lib.fields s).length):=by
  intro s h1 h2
  rw [h1] at h2 ⊢
  exact dB (fun _ _=>ff) h2 (kQ _) rfl (by decide)
 exact hw (by kernel_rfl) hb
def Yq (i:Nat)(c:UInt8):Bool:=lH c.toNat || (decide (i≠0) && jw c.toNat)
def sQ:Nat ->Bs ->Bool
 | _,[]=>true
 | i,c::l=>Yq i c && sQ (i+1) l
def kL (s:Bs):Bool:=decide (1<=s.length/\s.length<=12) && !zx.contains s && sQ 0 s
theorem kE {s:Bs}{i:Nat}(h:i<s.length):s4 (bs s) i=s[i]:=by
 simp [s4,bs,h]
theorem tQ {M:aS}(hg:eQ M)(s:Bs):Ct Tryz.prog 75 [st s] M [] [] (fun r _ _ _=>r=.bool (kL s)) aM:=by
 intro T
 refine az F75 rfl rfl ?_
 intro bi _
 simp +contextual only [go_sem,aD,sevalprocAttr]
 by_cases hl:(s.length:Int)<1\/12<(s.length:Int)
 ·rw [if_pos hl]
  refine ak aF.rfl' ?_
  have:¬ (1<=s.length/\s.length<=12):=by omega
  simp [kL,this]
 ·rw [if_neg hl]
  have di:1<=s.length/\s.length<=12:=by omega
  refine aI (DJ hg T) ?_
  rintro v M' hM _ hw
  simp +contextual only [go_sem,sevalprocAttr,hl]
  refine aI (qw s hw T) ?_
  rintro v' M2 bh _ rfl
  simp +contextual only [go_sem,aD,sevalprocAttr,hl]
  by_cases hc:zx.contains s=true
  ·simp only [hc,go_sem,sevalprocAttr]
   refine ak aF.rfl' ?_
   rw [kL,hc];simp
  ·simp only [hc,go_sem,sevalprocAttr]
   refine aO s.length 20 [(0,st s),(19,.int .i64 s.length)] (fun i e h=>h=⟨T,M2,[],[]⟩/\sQ 0 s=sQ i (s.drop i)) 0 (by omega) (by simp only [aE,go_sem,sevalprocAttr]) (by simp only [go_sem,sevalprocAttr]) ⟨rfl,rfl⟩ ?_
   rintro i e h hi aG ht ⟨rfl,am⟩
   simp only [aE,st] at aG
   by_cases aL:i<s.length
   ·have hx:=kE aL
    have bK:s.drop i=s[i]::s.drop (i+1):=dq aL
    rw [bK] at am
    simp only [sQ] at am
    have h0:((i:Int)=0)=(i=0):=by simp
    simp +contextual only [go_sem,aD,sevalprocAttr,aG,ht,aL,hx]
    by_cases hk:Yq i s[i]=true
    ·rw [if_neg (by simp only [Yq,lH,jw,Bool.or_eq_true,Bool.and_eq_true,decide_eq_true_eq] at hk;omega)]
     refine ce aL ?_ ?_ ⟨rfl,?_⟩
     ·simp only [aE,aG,go_sem,sevalprocAttr]
     ·simp only [go_sem,sevalprocAttr,aA i (by omega)]
     ·rw [am,hk];rfl
    ·rw [if_pos (by simp only [Yq,lH,jw,Bool.or_eq_true,Bool.and_eq_true,decide_eq_true_eq] at hk;omega)]
     refine ak aF.rfl' ?_
     simp only [Bool.not_eq_true] at hk
     rw [kL,am,hk];simp
   ·have:i=s.length:=by omega
    subst this
    simp +contextual only [go_sem,aD,sevalprocAttr,aG,ht,aL]
    refine ak aF.rfl' ?_
    have:sQ 0 s=true:=by rw [am];simp [sQ]
    simp only [Bool.not_eq_true] at hc
    rw [kL,hc,this];simp [di]
def iF (en:Int):List Tk ->Rs Bs
 | []=> .err 2 en
 | t::r=>if t.k=1 then (if kL t.s=true then .ok t.s r else .err 7 t.at_) else .err 2 t.at_
theorem hO {M:aS}{pb:Nat}{aU:List Tk}{lv:Value}{en op:Int}(hg:eQ M)(hl:RS M gC 3 aU lv):
 Ct Tryz.prog 42 [.pointer (some ⟨pb,0,none⟩)] M (pL pb lv en op) [] (fH pb en op (fun s v _=>v=st s) (iF en aU)) (gl pb en (iF en aU)):=by
 intro T
 refine az F42 rfl rfl ?_
 intro bi _
 simp only [aK] at bi
 rcases jx hl with ⟨rfl,a,c,rfl⟩ | ⟨t,r,b,o,c,rfl,rfl,hc,h0,h1,h2⟩
 ·simp +contextual only [go_sem,aD,sevalprocAttr,bi]
  refine mp [] hl ?_
  simp +contextual only [go_sem,sevalprocAttr]
  exact fy [] aF.rfl' rfl
 ·by_cases hk:t.k=1
  ·simp +contextual only [go_sem,aD,sevalprocAttr,bi,h0,h1,hk]
   refine aI (tQ hg t.s T) ?_
   rintro v M3 bE bB rfl
   have fF:=aH bE (fun _ _ h=>h) hl
   simp only [aK] at bB
   by_cases hn:kL t.s=true
   ·have Pe:(1:Int)<=((r.length+1:Nat):Int)/\r.length+1<=c:=⟨by omega,hc⟩
    simp +contextual only [go_sem,aD,sevalprocAttr,hn,bB,Pe]
    refine aQ aF.rfl' rfl rfl ⟨t.s,r,_,?_,rfl,?_,rfl,rfl⟩
    ·simp [iF,hk,hn]
    ·simpa using nh (k:=1) (by decide) (fun _ _=>qW) fF (by simp)
   ·simp +contextual only [go_sem,aD,sevalprocAttr,hn]
    refine mp [] fF ?_
    simp +contextual only [go_sem,sevalprocAttr]
    exact fy [] aF.rfl' (by simp [iF,hk,hn,pf])
  ·simp +contextual only [go_sem,aD,sevalprocAttr,bi,h0,hk]
   refine mp [] hl ?_
   simp +contextual only [go_sem,sevalprocAttr]
   exact fy [] aF.rfl' (by simp [iF,hk,pf])
def Ay (s:Bs):Nat:=s.foldl (fun n c=>n*10+(c.toNat - 48)) 0
theorem adI (l:Bs):∀ (acc k:Nat),acc<10 ^ k ->k+l.length<=16 ->(l.all fun c=>jw c.toNat)=true ->
 Lib.parseUintM (2 ^ 64 - 1) acc l=.ok (l.foldl (fun n c=>n*10+(c.toNat - 48)) acc)/\l.foldl (fun n c=>n*10+(c.toNat - 48)) acc<10 ^ (k+l.length):=by
 induction l with
 | nil=>intro acc k h _ _;exact ⟨rfl,by simpa using h⟩
 | cons c l ih=>
  intro acc k h hk hd
  simp only [List.all_cons,Bool.and_eq_true,jw,decide_eq_true_eq] at hd
  simp only [List.length_cons] at hk
  have hc:48<=c.toNat/\c.toNat<=57:=by omega
  have xy:acc<10 ^ 15:=Nat.lt_of_lt_of_le h (Nat.pow_le_pow_right (by decide) (by omega))
  have hn:acc*10+(c.toNat - 48)<10 ^ (k+1):=by rw [Nat.pow_succ];omega
  have:=ih (acc*10+(c.toNat - 48)) (k+1) hn (by omega) (by simpa [jw] using hd.2)
  simp only [Lib.parseUintM,if_pos hc,List.foldl_cons,List.length_cons]
  rw [if_neg (by omega),if_neg (by omega)]
  refine ⟨this.1,?_⟩
  rw [show k+(l.length+1)=k+1+l.length from by omega]
  exact this.2
theorem Br {s:Bs}(h:vP s=true):Lib.parseIntB 64 s=.ok (Ay s:Int)/\Ay s<10 ^ 16:=by
 simp only [vP,Bool.and_eq_true,decide_eq_true_eq] at h
 obtain ⟨⟨h1,h2⟩,h3⟩:=h
 obtain ⟨hu,aL⟩:=adI s 0 0 (by decide) (by omega) h3
 have GB:Ay s<10 ^ 16:=Nat.lt_of_lt_of_le aL (Nat.pow_le_pow_right (by decide) (by omega))
 refine ⟨?_,GB⟩
 cases s with
 | nil=>simp at h1
 | cons c r=>
  simp only [List.all_cons,Bool.and_eq_true,jw,decide_eq_true_eq] at h3
  have hc:¬ (c.toNat=43\/c.toNat=45):=by omega
  have Pe:¬ c.toNat=45:=by omega
  unfold Lib.parseIntB
  simp only [if_neg hc,Lib.parseUintB,if_neg (List.cons_ne_nil c r),hu]
  have:¬ (2 ^ (64 - 1)<=Ay (c::r)):=by omega
  simp only [Pe,not_false_eq_true,true_and,false_and,if_false]
  change ¬ (2 ^ (64 - 1)<=List.foldl (fun n c=>n*10+(c.toNat - 48)) 0 (c::r)) at this
  rw [if_neg this]
  rfl
theorem Ha {M:aS}{s:Bs}(h:vP s=true):Ct Tryz.prog 124 [st s,.int .i64 10,.int .i64 64] M [] [] (fun r M' _ _=>r=.tuple #[.int .i64 (Ay s),.nilIface]/\M'=M) aM:=by
 refine xp aip.bd fun w hw=> ?_
 have hl:s.length<=16:=by
  simp only [vP,Bool.and_eq_true,decide_eq_true_eq] at h
  exact h.1.2
 have hd:(bs s).data.toList=s:=by simp [bs]
 refine Calls.mono (Tryz.strconv_ParseInt_10_at64_ok (bs s) (by rw [CM];omega) (Ay s) (by rw [hd];exact (Br h).1) w) ?_
 rintro e w' ⟨rfl,gh⟩
 refine ⟨rfl,?_⟩
 rcases gh with rfl | ⟨t,rfl⟩
 ·exact ke.rfl'
 ·exact ke.bytes
def kX:Bs:=[45]
def rB (neg:Bool)(at0 en:Int):List Tk ->Rs Int
 | []=> .err 2 en
 | t::r=>if t.k=2 then (if (Ay t.s:Int)>1000000000000000 then .err 3 at0 else .ok (if neg=true then -(Ay t.s:Int) else Ay t.s) r) else .err 2 t.at_
def wK (en:Int)(aU:List Tk):Rs Int:=rB (bD kX aU) (pf en aU) en (if bD kX aU=true then aU.tail else aU)
theorem Fe {M:aS}{pb:Nat}{aU:List Tk}{lv:Value}{en op:Int}(hl:RS M gC 3 aU lv):
 Ct Tryz.prog 79 [.pointer (some ⟨pb,0,none⟩)] M (pL pb lv en op) [] (fH pb en op (fun n v _=>v=.int .i64 n) (wK en aU)) (gl pb en (wK en aU)):=by
 intro T
 refine az F79 rfl rfl ?_
 intro bi _
 simp only [aK] at bi
 simp +contextual only [go_sem,sevalprocAttr]
 refine mp [] hl ?_
 simp +contextual only [go_sem,sevalprocAttr]
 refine GS [] kX hl ?_
 intro lv' jm
 generalize hg:(if bD kX aU=true then aU.tail else aU)=toks1 at jm
 have am:wK en aU=rB (bD kX aU) (pf en aU) en toks1:=by unfold wK;rw [hg]
 rcases jx jm with ⟨rfl,a,c,rfl⟩ | ⟨t,r,b,o,c,rfl,rfl,hc,h0,h1,h2⟩
 ·simp +contextual only [go_sem,aD,sevalprocAttr,bi]
  refine mp [] jm ?_
  simp +contextual only [go_sem,sevalprocAttr]
  exact fy [] aF.rfl' am
 ·by_cases hk:t.k=2
  ·simp +contextual only [go_sem,aD,sevalprocAttr,bi,h0,h1,hk]
   have afI:=TS jm hk
   have aL:=(Br afI).2
   refine aI (Ha afI T) ?_
   rintro v M3 bE bB ⟨rfl,rfl⟩
   simp only [rB,hk,if_true] at am
   by_cases FK:(1000000000000000:Int)<(Ay t.s:Int)
   ·simp +contextual only [go_sem,aD,sevalprocAttr,FK]
    exact fy [] aF.rfl' (by rw [am,if_pos FK])
   ·have Pe:(1:Int)<=((r.length+1:Nat):Int)/\r.length+1<=c:=⟨by omega,hc⟩
    rw [if_neg FK] at am
    have wN:RS M3 gC 3 r (.slice (kF (some ⟨b,o,none⟩) c 1 3) (r.length+1 - 1) (c - 1)):=by simpa using nh (k:=1) (by decide) (fun _ _=>qW) jm (by simp)
    by_cases hs:bD kX aU=true
    ·simp +contextual only [go_sem,aD,sevalprocAttr,FK,bi,Pe,hs]
     refine aQ aF.rfl' rfl rfl ⟨_,r,_,am,rfl,?_,rfl,?_⟩
     ·simpa using wN
     ·simp only [hs,if_true]
      rw [Tu _ (by omega)]
    ·simp +contextual only [go_sem,aD,sevalprocAttr,FK,bi,Pe,hs]
     refine aQ aF.rfl' rfl rfl ⟨_,r,_,am,rfl,?_,rfl,?_⟩
     ·simpa using wN
     ·simp only [hs]
      rfl
  ·simp +contextual only [go_sem,aD,sevalprocAttr,bi,h0,hk]
   refine mp [] jm ?_
   simp +contextual only [go_sem,sevalprocAttr]
   exact fy [] aF.rfl' (by simp [am,rB,hk,pf])
def iV (k:Int):List Tk ->Bool | []=>false | t::_=>decide (t.k=k)
def Cq:List Tk ->V | []=>⟨0,0,[]⟩ | t::_=>⟨4,0,t.s⟩
def Rs.map {α β:Type}(f:α ->β):Rs α ->Rs β
 | .ok a r=> .ok (f a) r
 | .err e a=> .err e a
 | .out=> .out
def rM:Bs:=[110,117,108,108]
def Y0:Bs:=[116,114,117,101]
def Sx:Bs:=[102,97,108,115,101]
def jz (en:Int)(aU:List Tk):Rs (Option V):=
 if bD rM aU=true then .ok (some ⟨1,0,[]⟩) aU.tail
 else if bD Y0 aU=true then .ok (some ⟨2,1,[]⟩) aU.tail
 else if bD Sx aU=true then .ok (some ⟨2,0,[]⟩) aU.tail
 else if bD kX aU=true\/iV 2 aU=true then (wK en aU).map fun n=>some ⟨3,n,[]⟩
 else if iV 3 aU=true then .ok (some (Cq aU)) aU.tail
 else .ok none aU
def Um (o:Option V)(v:Value)(_:aS):Prop:=match o with
 | some x=>v=.tuple #[.agg ⟨x.cs⟩,.bool true]
 | none=>v=.tuple #[.agg ⟨(⟨0,0,[]⟩:V).cs⟩,.bool false]
theorem xT {M:aS}{pb:Nat}{aU:List Tk}{lv:Value}{en op:Int}(hl:RS M gC 3 aU lv):
 Ct Tryz.prog 82 [.pointer (some ⟨pb,0,none⟩)] M (pL pb lv en op) [] (fH pb en op Um (jz en aU)) (gl pb en (jz en aU)):=by
 intro T
 refine az F82 rfl rfl ?_
 intro bi _
 simp only [aK] at bi
 simp +contextual only [go_sem,aD,sevalprocAttr]
 intro b2 T2 dN im hT hTb
 refine iz [(b2,_)] rM hl (fun iX lv1 gK=> ?_) (fun iX lv1 gK=> ?_)
 ·simp +contextual only [go_sem,aD,sevalprocAttr,dN]
  exact al (aQ hT rfl rfl ⟨some ⟨1,0,[]⟩,aU.tail,lv1,by simp [jz,iX],rfl,gK,rfl,rfl⟩)
 simp +contextual only [go_sem,aD,sevalprocAttr]
 refine iz [(b2,_)] Y0 gK (fun oS lv2 fp=> ?_) (fun oS lv2 fp=> ?_)
 ·simp +contextual only [go_sem,aD,sevalprocAttr,dN]
  exact al (aQ hT rfl rfl ⟨some ⟨2,1,[]⟩,aU.tail,lv2,by simp [jz,iX,oS],rfl,fp,rfl,rfl⟩)
 simp +contextual only [go_sem,aD,sevalprocAttr]
 refine iz [(b2,_)] Sx fp (fun Ft lv3 fF=> ?_) (fun Ft lv3 fF=> ?_)
 ·simp +contextual only [go_sem,aD,sevalprocAttr,dN]
  exact al (aQ hT rfl rfl ⟨some ⟨2,0,[]⟩,aU.tail,lv3,by simp [jz,iX,oS,Ft],rfl,fF,rfl,rfl⟩)
 simp +contextual only [go_sem,aD,sevalprocAttr]
 refine aaN [(b2,_)] kX fF ?_
 have EO:jz en aU=if bD kX aU=true\/iV 2 aU=true then (wK en aU).map fun n=>some ⟨3,n,[]⟩
  else if iV 3 aU=true then .ok (some (Cq aU)) aU.tail else .ok none aU:=by simp [jz,iX,oS,Ft]
 rcases jx fF with ⟨rfl,a,c,rfl⟩ | ⟨t,r,b,o,c,rfl,rfl,hc,h0,h1,h2⟩
 ·simp +contextual only [go_sem,aD,sevalprocAttr,im,dN,bi,bD]
  refine al (aQ hT rfl rfl ⟨none,[],_,?_,rfl,fF,rfl,rfl⟩)
  simp [EO,bD,iV]
 ·by_cases hm:bD kX (t::r)=true\/t.k=2
  ·have hv:jz en (t::r)=(wK en (t::r)).map fun n=>some ⟨3,n,[]⟩:=by
    rw [EO,if_pos]
    simpa [iV] using hm
   simp +contextual only [go_sem,aD,sevalprocAttr,im,bi,h0,hm]
   refine sO [(b2,_)] (Fe fF T2) ?_ (fun c a M' lv' op' hM h=>Ky [(b2,_)] hT (by rw [hv,h];rfl))
   rintro v M' n r' lv' hM ui am jm rfl
   simp only [nn,aJ,aK] at ui
   simp +contextual only [go_sem,sevalprocAttr,ui]
   exact al (aQ hT rfl rfl ⟨some ⟨3,n,[]⟩,r',lv',by rw [hv,am];rfl,rfl,jm,rfl,rfl⟩)
  ·have hv:jz en (t::r)=if t.k=3 then .ok (some ⟨4,0,t.s⟩) r else .ok none (t::r):=by
    rw [EO,if_neg (by simpa [iV] using hm)]
    simp [iV,Cq]
   simp only [not_or] at hm
   simp +contextual only [go_sem,aD,sevalprocAttr,im,dN,bi,h0,h1,hm]
   by_cases hk:t.k=3
   ·have Pe:(1:Int)<=((r.length+1:Nat):Int)/\r.length+1<=c:=⟨by omega,hc⟩
    rw [if_pos hk] at hv
    simp +contextual only [go_sem,sevalprocAttr,hk]
    intro b4 T4 eN eE fG iI
    simp +contextual only [go_sem,sevalprocAttr,im,dN,hm,hk,eN,eE,Pe]
    refine al (al (aQ (hT.trans fG) rfl rfl ⟨_,r,_,hv,rfl,?_,rfl,rfl⟩))
    simpa using nh (k:=1) (by decide) (fun _ _=>qW) fF (by simp)
   ·rw [if_neg hk] at hv
    simp +contextual only [go_sem,sevalprocAttr,hk]
    exact al (aQ hT rfl rfl ⟨none,t::r,_,hv,rfl,fF,rfl,rfl⟩)
theorem MB {M:aS}{pb b:Nat}{lv:Value}{en op:Int}(hb:M b=some [.pointer (some ⟨pb,0,none⟩)])(T:Tm):
 CtD Tryz.prog 125 [.pointer (some ⟨b,0,none⟩)] T M (pL pb lv en op) [] (fun _ M' L' _=>M'=M/\L'=pL pb lv en (IntKind.i64.wrap (op - 1))) aM:=by
 refine RC aio rfl rfl ?_
 intro bi _
 simp only [aK] at bi
 simp +contextual only [go_sem,sevalprocAttr,bg hb,bi]
 refine aQ aF.rfl' rfl rfl ?_
 exact ⟨rfl,rfl⟩
theorem LF {M:aS}{pb:Nat}{aU:List Tk}{lv:Value}{en op:Int}(hl:RS M gC 3 aU lv)(h0:0<=op)(h1:op<=1000):
 Ct Tryz.prog 83 [.pointer (some ⟨pb,0,none⟩)] M (pL pb lv en op) [] (fun r M' L' _=>op+1<=100/\L'=pL pb lv en (op+1)/\∃ b,r=.func (.func 125) #[] #[.pointer (some ⟨b,0,none⟩)]/\M' b=some [.pointer (some ⟨pb,0,none⟩)])
  (fun ch _ L' _=>¬ op+1<=100/\ch=rN 4 (pf en aU)/\∃ op',L'=pL pb lv en op'):=by
 intro T
 refine az F83 rfl rfl ?_
 intro bi _
 simp only [aK] at bi
 simp +contextual only [go_sem,aD,sevalprocAttr,bi]
 intro b T2 hb im hT hTb
 have hw:IntKind.i64.wrap (op+1)=op+1:=bH (by omega) (by omega)
 simp +contextual only [go_sem,sevalprocAttr,hw]
 by_cases FK:(100:Int)<op+1
 ·simp +contextual only [go_sem,sevalprocAttr,FK]
  refine mp [(b,_)] hl ?_
  simp +contextual only [go_sem,sevalprocAttr]
  refine bT (gI 4 (pf en aU) M _) (fun _ _ _ _ h=>h.elim) ?_
  rintro ch M4 dD de rfl
  rw [l7,j2]
  refine al (aQ hT rfl rfl ?_)
  exact ⟨by omega,rfl,_,rfl⟩
 ·simp +contextual only [go_sem,sevalprocAttr,FK]
  refine aT fun he h1 h2=> ?_
  refine aQ hT rfl rfl ?_
  exact ⟨by omega,rfl,b,rfl,h1⟩
def nU (k:Int)(kids:List X):X:=.mk k ⟨0,0,[]⟩ [] [] kids
def Jq (x:X)(v:Value)(M:aS):Prop:=∃ cs,v=.agg ⟨cs⟩/\RX M x cs
theorem Fc {M:aS}{k:Int}{kids:List X}{s:Value}(h:RS M (RX M) 7 kids s):RX M (nU k kids) [.int .i64 k,.int .i64 0,.int .i64 0,st [],st [],st [],s]:=
 vC.2 ⟨s,rfl,h⟩
theorem Dq {cs:List Value}(h:cs.length=7):∃ a b c d e f g,cs=[a,b,c,d,e,f,g]:=by
 match cs,h with
 | [a,b,c,d,e,f,g],_=>exact ⟨a,b,c,d,e,f,g,rfl⟩
theorem bX {M:aS}{x:X}{cs}(h:RX M x cs):∃ s,cs=[.int .i64 x.k,.int .i64 x.v.k,.int .i64 x.v.n,st x.v.t,st x.tab,st x.name,s]/\s.oneCell'=true/\RS M (RX M) 7 x.kids s:=by
 obtain ⟨s,rfl,hs⟩:=vC.1 h
 refine ⟨s,rfl,?_,hs⟩
 obtain ⟨_,_,h2,_⟩:=hs
 rcases h2 with ⟨_,_,rfl,_⟩ | ⟨b,o,n,c,rfl,_⟩<;>rfl
theorem AU {M:aS}(k:Int){x:X}{cs:List Value}(hx:RX M x cs):Ct Tryz.prog 128 [.int .i64 k,.agg ⟨cs⟩] M [] [] (fun v M' _ _=>Jq (nU k [x]) v M') aM:=by
 intro T
 obtain ⟨s,rfl,h1,hs⟩:=bX hx
 refine az ahC rfl rfl ?_
 intro bi _
 simp +contextual only [go_sem,sevalprocAttr]
 intro b T1 hb dh hTb b1 T2 fx vu dy fT b2 dN fh
 refine aT fun he hM _=> ?_
 refine ak (dh.trans dy) ?_
 refine ⟨_,rfl,Fc ?_⟩
 exact dB (l:=[x]) (fun _ _ h=>dT h) hM (dj (bL he _ _ hx)) rfl (by decide)
theorem JL {M:aS}(k:Int){x y:X}{cs ds:List Value}(hx:RX M x cs)(hy:RX M y ds):Ct Tryz.prog 130 [.int .i64 k,.agg ⟨cs⟩,.agg ⟨ds⟩] M [] [] (fun v M' _ _=>Jq (nU k [x,y]) v M') aM:=by
 intro T
 obtain ⟨s,rfl,h1,hs⟩:=bX hx
 obtain ⟨s',rfl,qZ,yJ⟩:=bX hy
 refine az ajh rfl rfl ?_
 intro bi _
 simp +contextual only [go_sem,sevalprocAttr]
 intro b T1 hb dh hTb b1 T2 fx vu dy fT b2 T3 dN fh fV ei b3 ii df
 refine aT fun he hM _=> ?_
 refine ak ((dh.trans dy).trans fV) ?_
 refine ⟨_,rfl,Fc ?_⟩
 exact dB (l:=[x,y]) (fun _ _ h=>dT h) hM (cP (dj (bL he _ _ hx)) (dj (bL he _ _ hy))) rfl (by decide)
structure Lvl where
 signs:List Bs
 kind:Int
 once:Bool
def VP (M:aS)(l:Lvl)(cs:List Value):Prop:=∃ s,RS M rj 1 l.signs s/\(l.signs=[] ->s=.slice none 0 0)/\(l.signs≠[] ->∃ b n,s=.slice (some ⟨b,0,none⟩) n n)/\cs=[s,.int .i64 l.kind,.bool l.once]
theorem Hc {M:aS}{l:Lvl}{cs}(h:VP M l cs):cs.length=3:=by obtain ⟨_,_,_,_,rfl⟩:=h;rfl
def qP:List Lvl:=[⟨[[111,114]],5,false⟩,⟨[[97,110,100]],4,false⟩,⟨[],0,false⟩,⟨[[61],[60,62],[60],[60,61],[62],[62,61]],6,true⟩,⟨[[43],[45]],12,false⟩,⟨[[42]],14,false⟩,⟨[[124,124]],15,false⟩]
theorem qI {M:aS}{l:List Bs}{k:Int}{o:Bool}{b n:Nat}(h:M b=some (l.map st))(hl:l.length=n)(hn:n<=100)(cu:l≠[]):VP M ⟨l,k,o⟩ [.slice (some ⟨b,0,none⟩) n n,.int .i64 k,.bool o]:=
 ⟨_,dB (fun _ _=>ff) h (kQ l) hl (by omega),fun h=>(cu h).elim,fun _=>⟨b,n,rfl⟩,rfl⟩
theorem OB {M:aS}:Ct Tryz.prog 126 [] M [] [] (fun v M' _ _=>RS M' (VP M') 3 qP v) aM:=by
 intro T
 refine az ail rfl rfl ?_
 intro bi _
 simp +contextual only [go_sem,sevalprocAttr]
 intro b0 h0 b1 h1 a1 b2 h2 a2 b3 h3 a3 b4 h4 a4 b5 h5 a5 b6 h6 a6
 refine lz fun M' he hM=> ?_
 obtain ⟨k6,k5,k4,k3,k2,k1,k0,_⟩:=hM
 refine ak aF.rfl' ?_
 refine dB (l:=qP) (fun _ _ h=>Hc h) k6 ?_ rfl (by decide)
 refine ⟨_,_,rfl,qI k0 rfl (by decide) (by decide),_,_,rfl,qI k1 rfl (by decide) (by decide),[_,_,_],_,rfl,⟨.slice none 0 0,⟨by decide,[],.inl ⟨none,0,rfl,rfl,fun _=>rfl⟩,rfl⟩,fun _=>rfl,fun h=>(h rfl).elim,rfl⟩,_,_,rfl,qI k2 rfl (by decide) (by decide),_,_,rfl,qI k3 rfl (by decide) (by decide),
  _,_,rfl,qI k4 rfl (by decide) (by decide),_,_,rfl,qI k5 rfl (by decide) (by decide),rfl⟩
def bC:List Bs ->List Tk ->Option Nat
 | [],_=>none
 | s::l,t=>if bD s t=true then some 0 else (bC l t).map (·+1)
def Ff (o:Option Nat):Int:=match o with | some j=>j | none=> -1
def Hj (o:Option Nat)(t:List Tk):List Tk:=match o with | some _=>t.tail | none=>t
theorem uh {M:aS}{pb:Nat}{aU:List Tk}{lv sv:Value}{en op:Int}{l:List Bs}(hl:RS M gC 3 aU lv)(hs:RS M rj 1 l sv):
 Ct Tryz.prog 129 [sv,.func (.func 41) #[.pointer (some ⟨pb,0,none⟩)] #[]] M (pL pb lv en op) []
  (fun v M' L' _=>v=.int .i64 (Ff (bC l aU))/\M'=M/\∃ lv',L'=pL pb lv' en op/\RS M gC 3 (Hj (bC l aU) aU) lv') aM:=by
 intro T
 obtain ⟨hb,a,c,rfl,di,_,gO⟩:=ax (by decide) (fun _ _=>ff) hs
 refine az aji rfl rfl ?_
 intro bi _
 simp only [aK] at bi
 simp +contextual only [go_sem,aD,sevalprocAttr]
 refine aO l.length 8 [(0,.slice a l.length c),(1,.func (.func 41) #[.pointer (some ⟨pb,0,none⟩)] #[]),(6,.slice a l.length c),(7,.int .i64 l.length)] (fun i e h=>(∃ lv',h=⟨T,M,pL pb lv' en op,[]⟩/\RS M gC 3 aU lv')/\bC l aU=(bC (l.drop i) aU).map (·+i)) 0 (by omega) (by simp only [aE,go_sem,sevalprocAttr]) (by simp only [go_sem,sevalprocAttr]) ⟨⟨lv,rfl,hl⟩,by simp⟩ ?_
 rintro i e h hi aG ht ⟨⟨lv',rfl,jm⟩,am⟩
 simp only [aE] at aG
 by_cases aL:i<l.length
 ·obtain ⟨b,o,cs,rfl,bQ,cG⟩:=gO i l[i] (gq aL)
  unfold rj at cG;subst cG
  have hx:=bQ.1
  rw [Nat.mul_one] at hx
  have bK:l.drop i=l[i]::l.drop (i+1):=dq aL
  rw [bK] at am
  simp +contextual only [go_sem,aD,sevalprocAttr,aG,ht,aL,hx]
  refine iz [] l[i] jm (fun hs lv2 fp=> ?_) (fun hs lv2 fp=> ?_)
  ·simp +contextual only [go_sem,aD,sevalprocAttr]
   refine aQ aF.rfl' rfl rfl ?_
   have:bC l aU=some i:=by rw [am];simp [bC,hs]
   rw [this]
   exact ⟨rfl,rfl,lv2,rfl,fp⟩
  ·simp +contextual only [go_sem,aD,sevalprocAttr,ht]
   refine ce aL ?_ ?_ ⟨⟨lv2,rfl,fp⟩,?_⟩
   ·simp only [aE,aG,go_sem,sevalprocAttr]
   ·simp only [go_sem,sevalprocAttr,aA i (by omega)]
   ·rw [am]
    simp only [bC,hs,Bool.false_eq_true,if_false,Option.map_map]
    congr 1
    funext n
    simp only [Function.comp];omega
 ·have:i=l.length:=by omega
  subst this
  simp +contextual only [go_sem,aD,sevalprocAttr,aG,ht,aL]
  refine aQ aF.rfl' rfl rfl ?_
  have:bC l aU=none:=by rw [am];simp [bC]
  rw [this]
  exact ⟨rfl,rfl,lv',rfl,jm⟩
abbrev ZD:Bs:=[99,97,115,101]
abbrev Zt:Bs:=[119,104,101,110]
abbrev ZB:Bs:=[116,104,101,110]
abbrev Zl:Bs:=[101,108,115,101]
abbrev aeu:Bs:=[101,110,100]
abbrev Zu:Bs:=[99,111,97,108,101,115,99,101]
abbrev Pu:Bs:=[99,111,117,110,116]
abbrev yV:Bs:=[115,117,109]
abbrev xW:Bs:=[109,105,110]
abbrev yq:Bs:=[109,97,120]
abbrev yH:Bs:=[110,111,116]
abbrev wIs:Bs:=[105,115]
abbrev rJ:Bs:=[40]
abbrev kC:Bs:=[41]
abbrev kH:Bs:=[44]
abbrev zL:Bs:=[42]
abbrev aeV:Bs:=[46]
abbrev K6:Bs:=[59]
def Rs.bind {α β:Type}(r:Rs α)(f:α ->List Tk ->Rs β):Rs β:=match r with
 | .ok a t=>f a t
 | .err e a=> .err e a
 | .out=> .out
section
variable {α β:Type} {T N:Tm} {M:aS} {R:RR} {dr:List (Nat×Sched)} {ts:List ResultVar} {post:eu} {pb:Nat} {lv0 lv:Value} {en op0 op:Int} {d:Option Nat} {s:List Vc.Item} {e:dp} {aU:List Tk} {L1:LL}
theorem cm {f:FuncId}{args:List Value}{enc:α ->Value ->aS ->Prop}{res:Rs β}{g:Rs α}{Fk:α ->List Tk ->Rs β}(L1:LL)(hT:aF T N)(hp:res=g.bind Fk)(cu:res≠ .out)
 (hc:g≠ .out ->bV Tryz.prog f args N M (pL pb lv en op) [] (fH pb en op enc g) (gl pb en g))
 (k:∀ v M' a r lv',bm M M' ->aJ M' (L1++pL pb lv' en op) ->res=Fk a r ->RS M' gC 3 r lv' ->enc a v M' ->
  cy Tryz.prog (fi Tryz.prog T dr ts (aY (pL pb lv0 en op0)) 0 post (gl pb en res)) s (cI e d v) [] ⟨N,M',L1++pL pb lv' en op,R⟩ ⟨⟩):
 dx Tryz.prog (fi Tryz.prog T dr ts (aY (pL pb lv0 en op0)) 0 post (gl pb en res)) f args d s e [] ⟨N,M,L1++pL pb lv en op,R⟩ ⟨⟩:=by
 have hg:g≠ .out:=fun h=>cu (by rw [hp,h];rfl)
 refine sO L1 (hc hg) (fun v M' a r lv' hM bi am hr he=>k v M' a r lv' hM bi (by rw [hp,am];rfl) hr he) ?_
 intro c a M' lv' op' hM am
 exact Ky L1 hT (by rw [hp,am];rfl)
theorem dM {res:Rs β}{Fk:Unit ->List Tk ->Rs β}(L1:LL){x:Bs}{b:Nat}(hT:aF T N)(hp:res=(bZ en [x] aU).bind Fk)(hl:RS M gC 3 aU lv)
 (k:∀ M' lv',bm M M' ->aJ M' (L1++pL pb lv' en op) ->res=Fk () aU.tail ->RS M' gC 3 aU.tail lv' ->
  cy Tryz.prog (fi Tryz.prog T dr ts (aY (pL pb lv0 en op0)) 0 post (gl pb en res)) s (cI e d (.tuple #[])) [] ⟨N,M',L1++pL pb lv' en op,R⟩ ⟨⟩):
 dx Tryz.prog (fi Tryz.prog T dr ts (aY (pL pb lv0 en op0)) 0 post (gl pb en res)) 27 [.pointer (some ⟨pb,0,none⟩),.slice (some ⟨b,0,none⟩) 1 1] d s e [] ⟨N,M,(b,[.string (bs x)])::(L1++pL pb lv en op),R⟩ ⟨⟩:=by
 refine cZ F27.bd fun M1 aV hb bG=> ?_
 have gK:=aH aV (fun _ _ h=>h) hl
 have hs:RS M1 rj 1 [x] (.slice (some ⟨b,0,none⟩) 1 1):=dB (fun _ _=>ff) hb (kQ [x]) rfl (by decide)
 refine sO L1 (vi gK hs N) ?_ ?_
 ·rintro v M' a r lv' hM bi am hr rfl
  have ZW:r=aU.tail:=by
   simp only [bZ] at am
   split at am
   ·injection am with _ h;exact h.symm
   ·cases am
  subst ZW
  exact k M' lv' (aV.trans hM) bi (by rw [hp,am];rfl) hr
 ·intro c a M' lv' op' hM am
  exact Ky L1 hT (by rw [hp,am];rfl)
end
def aaS (v:V):X:=.mk 1 v [] [] []
def mT (en:Int)(ex:List Tk ->Rs X)(aU:List Tk):Rs X:=
 (jz en aU).bind fun v t=>match v with
  | some v=> .ok (aaS v) t
  | none=>
   if bD rJ t=true then (ex t.tail).bind fun x t=>(bZ en [kC] t).bind fun _ t=> .ok x t
   else if bD ZD t=true then (bZ en [Zt] t.tail).bind fun _ t=>(ex t).bind fun a t=>(bZ en [ZB] t).bind fun _ t=>(ex t).bind fun b t=>
    (bZ en [Zl] t).bind fun _ t=>(ex t).bind fun c t=>(bZ en [aeu] t).bind fun _ t=> .ok (nU 17 [a,b,c]) t
   else if bD Zu t=true then (bZ en [rJ] t.tail).bind fun _ t=>(ex t).bind fun a t=>(bZ en [kH] t).bind fun _ t=>(ex t).bind fun b t=>(bZ en [kC] t).bind fun _ t=> .ok (nU 18 [a,b]) t
   else if bD Pu t=true then (bZ en [rJ] t.tail).bind fun _ t=>
    if bD zL t=true then (bZ en [kC] t.tail).bind fun _ t=> .ok (nU 19 []) t
    else (ex t).bind fun a t=>(bZ en [kC] t).bind fun _ t=> .ok (nU 20 [a]) t
   else match bC [yV,xW,yq] t with
    | some i=>(bZ en [rJ] t.tail).bind fun _ t=>(ex t).bind fun a t=>(bZ en [kC] t).bind fun _ t=> .ok (nU (21+i) [a]) t
    | none=>(iF en t).bind fun n t=>if bD aeV t=true then (iF en t.tail).bind fun m t=> .ok (.mk 2 ⟨0,0,[]⟩ n m []) t else .ok (.mk 2 ⟨0,0,[]⟩ [] n []) t
def Zs (en:Int)(pb:Nat)(ex:List Tk ->Rs X)(op:Int):Prop:=∀ (M:aS) (aU:List Tk) (lv:Value) (T:Tm),eQ M ->RS M gC 3 aU lv ->ex aU≠ .out ->
 bV Tryz.prog 48 [.pointer (some ⟨pb,0,none⟩)] T M (pL pb lv en op) [] (fH pb en op Jq (ex aU)) (gl pb en (ex aU))
theorem abS {M:aS}(v:V):RX M (aaS v) [.int .i64 1,.int .i64 v.k,.int .i64 v.n,st v.t,st [],st [],.slice none 0 0]:=
 vC.2 ⟨.slice none 0 0,rfl,Nat.zero_le _,[],.inl ⟨_,_,rfl,rfl,fun _=>rfl⟩,rfl⟩
theorem lJ {M:aS}{x:X}{cs:List Value}(h:RX M x cs):∀ u∈cs,u.oneCell'=true:=by
 obtain ⟨s,rfl,h1,_⟩:=bX h
 intro u hu
 simp only [mn] at hu
 rcases hu with rfl | rfl | rfl | rfl | rfl | rfl | rfl<;>first | rfl | exact h1
theorem SD {a b:List Value}{n:Nat}(ha:a.length+b.length=n)(hn:n<=4398046511104):a.length+b.length<=4398046511104:=by omega
theorem Td {M:aS}{pb:Nat}{aU:List Tk}{lv:Value}{en op:Int}{ex:List Tk ->Rs X}(hg:eQ M)(hl:RS M gC 3 aU lv)(ix:Zs en pb ex op)(cu:mT en ex aU≠ .out)(T:Tm):
 bV Tryz.prog 127 [.pointer (some ⟨pb,0,none⟩)] T M (pL pb lv en op) [] (fH pb en op Jq (mT en ex aU)) (gl pb en (mT en ex aU)):=by
 refine az akr rfl rfl ?_
 intro bi _
 simp only [aK] at bi
 simp +contextual only [go_sem,sevalprocAttr]
 intro b2 T2 dN fh dy ei
 refine cm [(b2,_)] dy rfl cu (fun _=>xT hl T2) ?_
 intro v M1 o t lv1 aV bG am gK hv
 have lC:=hg.ext aV
 simp only [nn,aJ,aK] at bG
 cases o with
 | some x=>
  simp only [Um] at hv;subst hv
  simp +contextual only [go_sem,aD,sevalprocAttr,bG,V.cs]
  intro b3 T3 ii df fV gD
  refine al (al (aQ (dy.trans fV) rfl rfl ?_))
  exact ⟨aaS x,t,lv1,am,rfl,gK,rfl,_,rfl,abS x⟩
 | none=>
  simp only [Um] at hv;subst hv
  simp +contextual only [go_sem,aD,sevalprocAttr,V.cs]
  intro b3 T3 ii df fV gD
  simp only at am
  have hT:=dy.trans fV
  refine iz [(b3,_),(b2,_)] rJ gK (fun hs lv2 fp=> ?_) (fun hs lv2 fp=> ?_)
  ·rw [if_pos hs] at am
   simp +contextual only [go_sem,aD,sevalprocAttr]
   refine cm [(b3,_),(b2,_)] hT am cu (fun h=>ix M1 _ lv2 T3 lC fp h) ?_
   rintro v M2 x t2 lv3 bh aZ am fF ⟨cs,rfl,hx⟩
   obtain ⟨s,rfl,h1,_⟩:=bX hx
   simp only [nn,aJ,aK] at aZ
   simp +contextual only [go_sem,sevalprocAttr,h1]
   intro b5 T5 j6 ea lG oQ b6 pt gE
   refine dM [(b5,_),(b3,_),(b2,_)] (hT.trans lG) am fF ?_
   intro M3 lv4 bE bB am kf
   simp only [nn,aJ,aK] at bB
   simp +contextual only [go_sem,sevalprocAttr,bB,df,ea,h1]
   refine al (al (al (aQ (hT.trans lG) rfl rfl ?_)))
   exact ⟨x,_,lv4,am,rfl,kf,rfl,_,rfl,bL bE _ _ hx⟩
  rw [if_neg (by simp [hs])] at am
  clear hs
  simp +contextual only [go_sem,aD,sevalprocAttr]
  refine iz [(b3,_),(b2,_)] ZD fp (fun hs lv3 fF=> ?_) (fun hs lv3 fF=> ?_)
  ·rw [if_pos hs] at am
   simp +contextual only [go_sem,aD,sevalprocAttr]
   intro b4 eN eE
   refine dM [(b3,_),(b2,_)] hT am fF ?_
   intro M2 lv4 bh aZ am kf
   simp +contextual only [go_sem,sevalprocAttr]
   refine cm [(b3,_),(b2,_)] hT am cu (fun h=>ix M2 _ lv4 T3 (lC.ext bh) kf h) ?_
   rintro v M3 x t2 lv5 bE bB am gZ ⟨cs,rfl,hx⟩
   obtain ⟨s,rfl,h1,_⟩:=bX hx
   simp only [nn,aJ,aK] at bB
   simp +contextual only [go_sem,sevalprocAttr]
   intro bk eZ nz b6 T6 pt gE um CO b7 mN jv
   refine dM [(b6,_),(bk,_),(b3,_),(b2,_)] (hT.trans um) am gZ ?_
   intro M4 lv6 dD de am mB
   simp only [nn,aJ,aK] at de
   simp +contextual only [go_sem,sevalprocAttr]
   refine eG ⟨T,fun _=>none,[(b6,_)],[]⟩ (gx de.1) ?_
   simp +contextual only [go_sem,sevalprocAttr]
   refine cm [(b6,_),(bk,_),(b3,_),(b2,_)] (hT.trans um) am cu (fun h=>ix M4 _ lv6 T6 (((lC.ext bh).ext bE).ext dD) mB h) ?_
   rintro v M5 y t3 lv7 dJ bR am o5 ⟨cs,rfl,hy⟩
   obtain ⟨s',rfl,qZ,_⟩:=bX hy
   simp only [nn,aJ,aK] at bR
   simp +contextual only [go_sem,sevalprocAttr]
   refine ⟨gx bR.1,?_⟩
   intro b8 px eB
   refine ⟨uq bR.1 (fun h=>eB.1.2 h),?_⟩
   refine l4 Hh F1 (.slice _ 1 _ _ _ Tryz.underlying55 (cD [] px trivial rfl) (lJ hy)) (cD [(b8,_),(b6,_)] bR.2.1 ⟨⟨eB.2.1.2,eB.2.1.1⟩,⟨gE.1.2,gE.1.1⟩,trivial⟩ rfl) (Nat.zero_lt_succ _) (SD (n:=14) rfl (by decide)) ?_
   intro ra rm rc jc
   have apd:=px
   simp +contextual only [go_sem,sevalprocAttr,eB]
   intro b9 qy gP
   refine dM [(b8,_),(b6,_),(bk,_),(b3,_),(b2,_)] (hT.trans um) am o5 ?_
   intro M6 lv8 eP bU am tU
   simp only [nn,aJ,aK] at bU
   simp +contextual only [go_sem,sevalprocAttr]
   refine eG ⟨T,fun _=>none,[(b6,_)],[]⟩ (uq bU.2.1 (fun h=>eB.1.2 h)) ?_
   simp +contextual only [go_sem,sevalprocAttr]
   refine cm [(b8,_),(b6,_),(bk,_),(b3,_),(b2,_)] (hT.trans um) am cu (fun h=>ix M6 _ lv8 T6 ((((lC.ext bh).ext bE).ext dD).ext dJ |>.ext eP) tU h) ?_
   rintro v M7 z t4 lv9 qN mw am Ms ⟨cs,rfl,hz⟩
   obtain ⟨s'',rfl,Xo,_⟩:=bX hz
   simp only [nn,aJ,aK] at mw
   simp +contextual only [go_sem,sevalprocAttr]
   refine ⟨jX [(b8,_)] mw.2.1 ⟨⟨eB.1.2,eB.1.1⟩,trivial⟩,?_⟩
   intro ba hba VL
   refine ⟨jX [(ba,_),(b8,_)] mw.2.1 ⟨⟨VL.2.1.2,VL.2.1.1⟩,⟨eB.1.2,eB.1.1⟩,trivial⟩,?_⟩
   refine gL Hh F1 (.slice _ 1 _ _ _ Tryz.underlying55 (cD [] hba trivial rfl) (lJ hz)) (SD (n:=21) rfl (by decide)) ?_
   intro ra' rm' rc' apJ
   simp +contextual only [go_sem,sevalprocAttr,eB,VL]
   intro bb VD tG
   refine dM [(ba,_),(b8,_),(b6,_),(bk,_),(b3,_),(b2,_)] (hT.trans um) am Ms ?_
   intro M8 lva vz oD am hla
   simp only [nn,aJ,aK] at oD
   simp +contextual only [go_sem,sevalprocAttr,oD,df,nz,gE,eB,VL]
   refine cK fun M9 Oi rq iG=> ?_
   refine al (al (al (al (al (al (aQ (hT.trans um) rfl rfl ?_))))))
   have hx9:=bL (((((dD.trans dJ).trans eP).trans qN).trans vz).trans Oi) _ _ hx
   have hy9:=bL (((eP.trans qN).trans vz).trans Oi) _ _ hy
   have hz9:=bL (vz.trans Oi) _ _ hz
   refine ⟨nU 17 [x,y,z],_,lva,am,rfl,aH Oi (fun _ _ h=>h) hla,rfl,_,rfl,Fc ⟨by simp,_,iG,?_⟩⟩
   exact cP (dj hx9) (cP (dj hy9) (dj hz9))
  rw [if_neg (by simp [hs])] at am
  clear hs
  simp +contextual only [go_sem,aD,sevalprocAttr]
  refine iz [(b3,_),(b2,_)] Zu fF (fun hs lv4 kf=> ?_) (fun hs lv4 kf=> ?_)
  ·rw [if_pos hs] at am
   simp +contextual only [go_sem,aD,sevalprocAttr]
   intro b4 eN eE
   refine dM [(b3,_),(b2,_)] hT am kf ?_
   intro M2 lv5 bh aZ am gZ
   simp +contextual only [go_sem,sevalprocAttr]
   refine cm [(b3,_),(b2,_)] hT am cu (fun h=>ix M2 _ lv5 T3 (lC.ext bh) gZ h) ?_
   rintro v M3 x t2 lv6 bE bB am mB ⟨cs,rfl,hx⟩
   obtain ⟨s,rfl,h1,_⟩:=bX hx
   simp only [nn,aJ,aK] at bB
   simp +contextual only [go_sem,sevalprocAttr,h1]
   intro b7 T7 mN jv BB Ja b6 pt gE
   refine dM [(b7,_),(b3,_),(b2,_)] (hT.trans BB) am mB ?_
   intro M4 lv7 dD de am o5
   simp +contextual only [go_sem,sevalprocAttr]
   refine cm [(b7,_),(b3,_),(b2,_)] (hT.trans BB) am cu (fun h=>ix M4 _ lv7 T7 (((lC.ext bh).ext bE).ext dD) o5 h) ?_
   rintro v M5 y t3 lv8 dJ bR am tU ⟨cs,rfl,hy⟩
   obtain ⟨s',rfl,qZ,_⟩:=bX hy
   simp only [nn,aJ,aK] at bR
   simp +contextual only [go_sem,sevalprocAttr,qZ]
   intro b8 T8 px eB ni sH b9 qy gP
   refine dM [(b8,_),(b7,_),(b3,_),(b2,_)] ((hT.trans BB).trans ni) am tU ?_
   intro M6 lv9 eP bU am Ms
   simp only [nn,aJ,aK] at bU
   simp +contextual only [go_sem,sevalprocAttr,bU,eB]
   refine aI (JL 18 (bL ((dD.trans dJ).trans eP) _ _ hx) (bL eP _ _ hy) T8) ?_
   rintro v M7 qN mw ⟨cs,rfl,Kb⟩
   obtain ⟨s'',rfl,Xo,_⟩:=bX Kb
   simp only [aJ,aK] at mw
   simp +contextual only [go_sem,sevalprocAttr,mw,df,jv,eB,Xo]
   refine al (al (al (al (aQ ((hT.trans BB).trans ni) rfl rfl ?_))))
   exact ⟨_,_,lv9,am,rfl,aH qN (fun _ _ h=>h) Ms,rfl,_,rfl,Kb⟩
  rw [if_neg (by simp [hs])] at am
  clear hs
  simp +contextual only [go_sem,aD,sevalprocAttr]
  refine iz [(b3,_),(b2,_)] Pu kf (fun hs lv5 gZ=> ?_) (fun hs lv5 gZ=> ?_)
  ·rw [if_pos hs] at am
   simp +contextual only [go_sem,aD,sevalprocAttr]
   intro b4 eN eE
   refine dM [(b3,_),(b2,_)] hT am gZ ?_
   intro M2 lv6 bh aZ am mB
   simp +contextual only [go_sem,sevalprocAttr]
   refine iz [(b3,_),(b2,_)] zL mB (fun oS lv7 o5=> ?_) (fun oS lv7 o5=> ?_)
   ·rw [if_pos oS] at am
    simp +contextual only [go_sem,aD,sevalprocAttr]
    intro b5 j6 ea
    refine dM [(b3,_),(b2,_)] hT am o5 ?_
    intro M3 lv8 bE bB am tU
    simp only [nn,aJ,aK] at bB
    simp +contextual only [go_sem,sevalprocAttr,bB,df]
    refine al (al (aQ hT rfl rfl ?_))
    exact ⟨_,_,lv8,am,rfl,tU,rfl,_,rfl,Fc ⟨Nat.zero_le _,[],.inl ⟨_,_,rfl,rfl,fun _=>rfl⟩,rfl⟩⟩
   ·rw [if_neg (by simp [oS])] at am
    simp +contextual only [go_sem,aD,sevalprocAttr]
    refine cm [(b3,_),(b2,_)] hT am cu (fun h=>ix M2 _ lv7 T3 (lC.ext bh) o5 h) ?_
    rintro v M3 x t2 lv8 bE bB am tU ⟨cs,rfl,hx⟩
    simp +contextual only [go_sem,sevalprocAttr]
    refine aI (AU 20 hx T3) ?_
    rintro v M4 dD de ⟨cs',rfl,hx4⟩
    obtain ⟨s,rfl,h1,_⟩:=bX hx4
    simp only [aJ,aK] at de
    simp +contextual only [go_sem,sevalprocAttr,h1]
    intro b7 T7 mN jv BB Ja b6 pt gE
    refine dM [(b7,_),(b3,_),(b2,_)] (hT.trans BB) am (aH dD (fun _ _ h=>h) tU) ?_
    intro M5 lv9 dJ bR am Ms
    simp only [nn,aJ,aK] at bR
    simp +contextual only [go_sem,sevalprocAttr,bR,df,jv,h1]
    refine al (al (al (aQ (hT.trans BB) rfl rfl ?_)))
    exact ⟨_,_,lv9,am,rfl,Ms,rfl,_,rfl,bL dJ _ _ hx4⟩
  rw [if_neg (by simp [hs])] at am
  clear hs
  simp +contextual only [go_sem,aD,sevalprocAttr]
  intro b4 eN eE
  refine bY 3 105 [(0,.pointer (some ⟨pb,0,none⟩)),(2,.pointer (some ⟨b2,0,none⟩)),(103,.slice (some ⟨b4,0,none⟩) 3 3),(104,.int .i64 3)]
   (fun i e h=>(∃ M' lv' cs3 cs2,bm M1 M'/\h=⟨T3,M',(b3,cs3)::(b2,cs2)::pL pb lv' en op,[]⟩/\cs2.length=7/\M' b4=some ([yV,xW,yq].map st)/\RS M' gC 3 t lv'/\M' b3=none/\M' b2=none/\M' pb=none)/\bC [yV,xW,yq] t=(bC ([yV,xW,yq].drop i) t).map (·+i))
   0 (by omega) (by simp only [aE,go_sem,sevalprocAttr]) (by simp only [go_sem,sevalprocAttr]) (aT fun he hb bi=>aB ⟨⟨_,lv5,_,_,he,rfl,rfl,hb,aH he (fun _ _ h=>h) gZ,bi.1,bi.2.1,by simpa only [aK] using bi.2.2⟩,by simp⟩) ?_
  rintro i e h hi aG ht ⟨⟨M2,lv6,cs3,cs2,bh,rfl,ju,hw,mB,H2,pi,hnp⟩,li⟩
  simp only [aE] at aG
  obtain ⟨q0,q1,q2,q3,q4,q5,q6,rfl⟩:=Dq ju
  have xb:=lC.ext bh
  by_cases aL:i<3
  ·have bK:[yV,xW,yq].drop i=[yV,xW,yq][i]::[yV,xW,yq].drop (i+1):=dq aL
   rw [bK] at li
   have hx:aN M2 ⟨b4,i,none⟩=some (st [yV,xW,yq][i]):=by
    rw [bg hw,List.getElem?_map,gq aL]
    rfl
   have Uz:(i:Int)<3:=by omega
   simp +contextual only [go_sem,aD,sevalprocAttr,aG,ht,Uz,hx]
   refine iz [(b3,_),(b2,_)] [yV,xW,yq][i] mB (fun hs lv7 o5=> ?_) (fun hs lv7 o5=> ?_)
   ·have EK:bC [yV,xW,yq] t=some i:=by rw [li];simp [bC,hs]
    rw [EK] at am
    simp only at am
    simp +contextual only [go_sem,aD,sevalprocAttr,aG]
    intro b5 j6 ea
    refine dM [(b3,_),(b2,_)] hT am o5 ?_
    intro M3 lv8 bE bB am tU
    simp +contextual only [go_sem,sevalprocAttr,aG]
    refine cm [(b3,_),(b2,_)] hT am cu (fun h=>ix M3 _ lv8 T3 (xb.ext bE) tU h) ?_
    rintro v M4 x t2 lv9 dD de am Ms ⟨cs,rfl,hx⟩
    have Mp:IntKind.i64.wrap (21+(i:Int))=21+(i:Int):=bH (by omega) (by omega)
    simp +contextual only [go_sem,sevalprocAttr,Mp]
    refine aI (AU (21+(i:Int)) hx T3) ?_
    rintro v M5 dJ bR ⟨cs',rfl,Tx⟩
    obtain ⟨s,rfl,h1,_⟩:=bX Tx
    simp only [aJ,aK] at bR
    simp +contextual only [go_sem,sevalprocAttr,h1,aG]
    intro b7 T7 mN jv BB Ja b6 pt gE
    refine dM [(b7,_),(b3,_),(b2,_)] (hT.trans BB) am (aH dJ (fun _ _ h=>h) Ms) ?_
    intro M6 lva eP bU am hla
    simp only [nn,aJ,aK] at bU
    simp +contextual only [go_sem,sevalprocAttr,bU,df,jv,h1,aG]
    refine al (al (al (aQ (hT.trans BB) rfl rfl ?_)))
    exact ⟨_,_,lva,am,rfl,hla,rfl,_,rfl,bL eP _ _ Tx⟩
   ·simp +contextual only [go_sem,aD,sevalprocAttr,ht]
    refine ce aL ?_ ?_ ⟨⟨M2,lv7,cs3,_,bh,rfl,rfl,hw,o5,H2,pi,hnp⟩,?_⟩
    ·simp only [aE,aG,go_sem,sevalprocAttr]
    ·simp only [go_sem,sevalprocAttr,aA i (by omega)]
    ·rw [li]
     simp only [bC,hs,Bool.false_eq_true,if_false,Option.map_map]
     congr 1
     funext n
     simp only [Function.comp];omega
  ·have:i=3:=by omega
   subst this
   have EK:bC [yV,xW,yq] t=none:=by rw [li];rfl
   rw [EK] at am
   simp only at am
   have h33:¬ ((3:Nat):Int)<3:=by omega
   simp +contextual only [go_sem,aD,sevalprocAttr,aG,ht]
   refine cm [(b3,_),(b2,_)] hT am cu (fun _=>hO xb mB T3) ?_
   rintro v M3 n t2 lv7 bE bB am o5 rfl
   simp +contextual only [go_sem,sevalprocAttr,aG]
   refine iz [(b3,_),(b2,_)] aeV o5 (fun hs lv8 tU=> ?_) (fun hs lv8 tU=> ?_)
   ·rw [if_pos hs] at am
    simp +contextual only [go_sem,aD,sevalprocAttr,aG]
    refine cm [(b3,_),(b2,_)] hT am cu (fun _=>hO (xb.ext bE) tU T3) ?_
    rintro v M4 m t3 lv9 dD de am Ms rfl
    simp only [nn,aJ,aK] at de
    simp +contextual only [go_sem,sevalprocAttr,de,aG,df]
    refine al (al (aQ hT rfl rfl ?_))
    exact ⟨_,_,lv9,am,rfl,Ms,rfl,_,rfl,vC.2 ⟨_,rfl,Nat.zero_le _,[],.inl ⟨_,_,rfl,rfl,fun _=>rfl⟩,rfl⟩⟩
   ·rw [if_neg (by simp [hs])] at am
    simp only [nn,aJ,aK] at bB
    simp +contextual only [go_sem,aD,sevalprocAttr,bB,aG,df]
    refine al (al (aQ hT rfl rfl ?_))
    exact ⟨_,_,lv8,am,rfl,tU,rfl,_,rfl,vC.2 ⟨_,rfl,Nat.zero_le _,[],.inl ⟨_,_,rfl,rfl,fun _=>rfl⟩,rfl⟩⟩
def gS (n:Nat):Lvl:=qP.getD n ⟨[],0,false⟩
def km (g:List Tk ->Rs X)(l:Lvl):Nat ->X ->List Tk ->Rs X
 | 0,_,_=> .out
 | k+1,x,t=>match bC l.signs t with
  | none=> .ok x t
  | some j=>(g t.tail).bind fun y t'=>if l.once=true then .ok (nU (l.kind+j) [x,y]) t' else km g l k (nU (l.kind+j) [x,y]) t'
def isM (en:Int)(x:X)(t:List Tk):Rs X:=(bZ en [rM] (if bD yH t.tail=true then t.tail.tail else t.tail)).bind fun _ t'=> .ok (if bD yH t.tail=true then nU 3 [nU 16 [x]] else nU 16 [x]) t'
def eW (en:Int):Nat ->Nat ->Int ->List Tk ->Rs X
 | 0,_,_,_=> .out
 | f+1,n,op,t=>
  if n=7 then mT en (fun t=>if op+1>100 then .err 4 (pf en t) else eW en f 0 (op+1) t) t
  else if n=2 then
   if bD yH t=true then (if op+1>100 then .err 4 (pf en t.tail) else (eW en f 2 (op+1) t.tail).bind fun x t=> .ok (nU 3 [x]) t)
   else eW en f 3 op t
  else (eW en f (n+1) op t).bind fun x t=>
   if n=3/\bD wIs t=true then isM en x t
   else km (eW en f (n+1) op) (gS n) (t.length+1) x t
def wx (en:Int)(f:Nat)(op:Int)(t:List Tk):Rs X:=if op+1>100 then .err 4 (pf en t) else eW en f 0 (op+1) t
def aeY (en:Int)(pb:Nat)(f:Nat):Prop:=∀ (n:Nat) (op:Int) (M:aS) (t:List Tk) (lv:Value) (T:Tm),n<=7 ->0<=op ->op<=100 ->eQ M ->RS M gC 3 t lv ->eW en f n op t≠ .out ->
 bV Tryz.prog 84 [.pointer (some ⟨pb,0,none⟩),.int .i64 (n:Int)] T M (pL pb lv en op) [] (fH pb en op Jq (eW en f n op t)) (gl pb en (eW en f n op t))
theorem qK {M:aS}{N:Tm}{R:RR}{pb b:Nat}{lv:Value}{en op:Int}(L1:LL)(hb:M b=some [.pointer (some ⟨pb,0,none⟩)]){args:Array Value}(ha:args.toList=[]){k:Sh ->Prop}(hk:k ⟨N,M,L1++pL pb lv en (IntKind.i64.wrap (op - 1)),R⟩):
 BL Tryz.prog [{target:=.fn (.func 125) ⟨[.pointer (some ⟨b,0,none⟩)]⟩,args:=args}] ⟨N,M,L1++pL pb lv en op,R⟩ k:=by
 have hd:dFn {target:=.fn (.func 125) ⟨[.pointer (some ⟨b,0,none⟩)]⟩,args:=args}=some (125,[.pointer (some ⟨b,0,none⟩)]):=by simp [dFn,ha]
 unfold BL
 rw [hd]
 refine PY L1 (MB hb N) fun v M' L' hM ML bi h=> ?_
 obtain ⟨rfl,rfl⟩:=h
 exact hk
theorem AZ {op:Int}(h0:0<=op)(h1:op<=1000):IntKind.i64.wrap (op+1 - 1)=op:=by
 rw [show op+1 - 1=op from by omega]
 exact bH (by omega) (by omega)
theorem qE (e a:Int):Ya (rN e a)=true:=rfl
theorem Kk {en:Int}{pb f:Nat}{op:Int}(hb:aeY en pb f)(h0:0<=op)(h1:op<=100):Zs en pb (wx en f op) op:=by
 intro M aU lv T hg hl cu
 refine Ey F48 rfl rfl ?_
 intro bi _
 simp only [aK] at bi
 simp +contextual only [go_sem,sevalprocAttr]
 intro b2 T2 dN fh dy ei
 refine dC [(b2,_)] (LF hl h0 (by omega) T2) ?_ ?_
 ·rintro v M1 L1 aV D2 bG ⟨dZ,rfl,b,rfl,WQ⟩
  have ix:wx en f op aU=eW en f 0 (op+1) aU:=by unfold wx;rw [if_neg (by omega)]
  rw [ix] at cu ⊢
  have gK:=aH aV (fun _ _ h=>h) hl
  simp only [nn,aJ,aK] at bG
  simp +contextual only [go_sem,sevalprocAttr]
  refine dC [(b2,_)] (hb 0 (op+1) M1 aU lv T2 (by omega) (by omega) dZ (hg.ext aV) gK cu) ?_ ?_
  ·rintro v M2 L2 bh lh aZ ⟨x,r,lv2,am,rfl,fp, -,cs,rfl,hx⟩
   obtain ⟨s,rfl,qZ,_⟩:=bX hx
   simp only [nn,aJ,aK] at aZ
   simp +contextual only [go_sem,sevalprocAttr,qZ]
   refine qK [(b2,_)] (bh _ _ WQ) rfl ?_
   rw [AZ h0 (by omega)]
   simp +contextual only [go_sem,sevalprocAttr,aZ]
   refine al (aQ dy rfl rfl ?_)
   exact ⟨x,r,lv2,am,rfl,fp,rfl,_,rfl,hx⟩
  ·rintro ch M2 L2 bh lh aZ ⟨c,a,lv2,op2,am,rfl,rfl, -⟩
   rw [xk]
   refine ⟨qE _ _,?_⟩
   refine qK [(b2,_)] (bh _ _ WQ) rfl ?_
   refine al (aQ dy rfl rfl ?_)
   exact ⟨c,a,lv2,_,am,rfl,rfl,rfl⟩
 ·rintro ch M1 L1 aV D2 bG ⟨dZ,rfl,op',rfl⟩
  have ix:wx en f op aU=.err 4 (pf en aU):=by unfold wx;rw [if_pos (by omega)]
  rw [ix]
  refine ⟨qE _ _,?_⟩
  refine al (aQ dy rfl rfl ?_)
  exact ⟨4,_,lv,op',rfl,rfl,rfl,rfl⟩
theorem WU {M:aS}{b o:Nat}{l:Lvl}{cs:List Value}(h:VP M l cs)(ha:At M b o cs):∃ s,aN M ⟨b,o,none⟩=some s/\aN M ⟨b,o+1,none⟩=some (.int .i64 l.kind)/\aN M ⟨b,o+2,none⟩=some (.bool l.once)/\
 RS M rj 1 l.signs s/\(l.signs=[] ->s=.slice none 0 0)/\(l.signs≠[] ->∃ b n,s=.slice (some ⟨b,0,none⟩) n n):=by
 obtain ⟨s,h1,h2,h3,rfl⟩:=h
 exact ⟨s,ha.1,ha.2.1,ha.2.2.1,h1,h2,h3⟩
theorem Vx {n:Nat}(h:n<7):qP[n]?=some (gS n):=by
 have:n<qP.length:=h
 rw [gq this]
 simp [gS,List.getD_eq_getElem?_getD,gq this]
section
variable {α β:Type} {T N:Tm} {M:aS} {R:RR} {dr:List (Nat×Sched)} {ts:List ResultVar} {post:eu} {pb:Nat} {lv0 lv:Value} {en op0 op:Int} {d:Option Nat} {s:List Vc.Item} {e:dp} {aU:List Tk} {L1:LL}
theorem IZ {res:Rs α}{c a:Int}(L1:LL)(hT:aF T N)(h:res=.err c a):(Pf Tryz.prog T dr ts (aY (pL pb lv0 en op0)) 0 post (gl pb en res)).pan (rN c a) e [] ⟨N,M,L1++pL pb lv en op,R⟩:=by
 rw [xk]
 exact ⟨qE c a,gH L1 (bW (aQ hT rfl rfl ⟨c,a,lv,op,h,rfl,rfl,rfl⟩))⟩
theorem tt {f:FuncId}{args:List Value}{enc:α ->Value ->aS ->Prop}{res:Rs β}{g:Rs α}{Fk:α ->List Tk ->Rs β}(L1:LL)(hT:aF T N)(hp:res=g.bind Fk)(cu:res≠ .out)
 (hc:g≠ .out ->bV Tryz.prog f args N M (pL pb lv en op) [] (fH pb en op enc g) (gl pb en g))
 (k:∀ v M' a r lv',bm M M' ->aJ M' (L1++pL pb lv' en op) ->res=Fk a r ->RS M' gC 3 r lv' ->enc a v M' ->
  cy Tryz.prog (Pf Tryz.prog T dr ts (aY (pL pb lv0 en op0)) 0 post (gl pb en res)) s (cI e d v) [] ⟨N,M',L1++pL pb lv' en op,R⟩ ⟨⟩):
 dx Tryz.prog (Pf Tryz.prog T dr ts (aY (pL pb lv0 en op0)) 0 post (gl pb en res)) f args d s e [] ⟨N,M,L1++pL pb lv en op,R⟩ ⟨⟩:=by
 have hg:g≠ .out:=fun h=>cu (by rw [hp,h];rfl)
 refine sO L1 (hc hg) (fun v M' a r lv' hM bi am hr he=>k v M' a r lv' hM bi (by rw [hp,am];rfl) hr he) ?_
 intro c a M' lv' op' hM am
 exact IZ L1 hT (by rw [hp,am];rfl)
theorem Kh {res:Rs β}{Fk:Unit ->List Tk ->Rs β}(L1:LL){x:Bs}{b:Nat}(hT:aF T N)(hp:res=(bZ en [x] aU).bind Fk)(hl:RS M gC 3 aU lv)
 (k:∀ M' lv',bm M M' ->aJ M' (L1++pL pb lv' en op) ->res=Fk () aU.tail ->RS M' gC 3 aU.tail lv' ->
  cy Tryz.prog (Pf Tryz.prog T dr ts (aY (pL pb lv0 en op0)) 0 post (gl pb en res)) s (cI e d (.tuple #[])) [] ⟨N,M',L1++pL pb lv' en op,R⟩ ⟨⟩):
 dx Tryz.prog (Pf Tryz.prog T dr ts (aY (pL pb lv0 en op0)) 0 post (gl pb en res)) 27 [.pointer (some ⟨pb,0,none⟩),.slice (some ⟨b,0,none⟩) 1 1] d s e [] ⟨N,M,(b,[.string (bs x)])::(L1++pL pb lv en op),R⟩ ⟨⟩:=by
 refine cZ F27.bd fun M1 aV hb bG=> ?_
 have gK:=aH aV (fun _ _ h=>h) hl
 have hs:RS M1 rj 1 [x] (.slice (some ⟨b,0,none⟩) 1 1):=dB (fun _ _=>ff) hb (kQ [x]) rfl (by decide)
 refine sO L1 (vi gK hs N) ?_ ?_
 ·rintro v M' a r lv' hM bi am hr rfl
  have ZW:r=aU.tail:=by
   simp only [bZ] at am
   split at am
   ·injection am with _ h;exact h.symm
   ·cases am
  subst ZW
  exact k M' lv' (aV.trans hM) bi (by rw [hp,am];rfl) hr
 ·intro c a M' lv' op' hM am
  exact IZ L1 hT (by rw [hp,am];rfl)
end
theorem Rs.bind_ok {α:Type}(g:Rs α):g=g.bind fun a t=> .ok a t:=by cases g<;>rfl
theorem yG {l:List Bs}{t:List Tk}:∀ {j:Nat},bC l t=some j ->j<l.length:=by
 induction l with
 | nil=>intro j h;cases h
 | cons s l ih=>
  intro j h
  simp only [bC] at h
  split at h
  ·injection h with h;subst h;simp
  ·obtain ⟨k,hk,rfl⟩:=Option.map_eq_some_iff.1 h
   have:=ih hk
   simp only [List.length_cons];omega
theorem Nb:∀ n,n<7 ->0<=(gS n).kind/\(gS n).kind<=15/\(gS n).signs.length<=6/\((gS n).once=decide (n=3))/\(n≠2 ->(gS n).signs≠[]):=by decide
theorem OI {en:Int}{pb:Nat}:∀ f,aeY en pb f:=by
 intro f
 induction f with
 | zero=>intro n op M t lv T hn h0 h1 hg hl cu;exact (cu rfl).elim
 | succ f ih=>
  intro n op M t lv T hn h0 h1 hg hl cu
  refine Ey F84 rfl rfl ?_
  intro bi _
  simp only [aK] at bi
  simp +contextual only [go_sem,sevalprocAttr]
  intro b4 T4 eN eE fG iI
  refine aI (OB T4) ?_
  rintro v M1 aV bG aG
  have gK:=aH aV (fun _ _ h=>h) hl
  have lC:=hg.ext aV
  simp only [aJ,aK] at bG
  obtain ⟨_,la,lc,rfl,hlc,_,gO⟩:=ax (by decide) (fun _ _ h=>Hc h) aG
  have adT:qP.length=7:=rfl
  simp +contextual only [go_sem,aD,sevalprocAttr,adT]
  by_cases hn7:n=7
  ·subst hn7
   simp +contextual only [go_sem,sevalprocAttr]
   have vy:eW en (f+1) 7 op t=mT en (wx en f op) t:=rfl
   refine tt [(b4,_)] fG (vy.trans (Rs.bind_ok _)) cu (fun h=>Td lC gK (Kk ih h0 h1) h T4) ?_
   rintro v M2 x r lv2 bh aZ am fp ⟨cs,rfl,hx⟩
   obtain ⟨s,rfl,qZ,_⟩:=bX hx
   simp only [nn,aJ,aK] at aZ
   simp +contextual only [go_sem,sevalprocAttr,aZ,qZ]
   refine al (aQ fG rfl rfl ?_)
   exact ⟨x,r,lv2,am,rfl,fp,rfl,_,rfl,hx⟩
  have ad4:n<7:=by omega
  obtain ⟨lb,lo,cs,rfl,bQ,wJ⟩:=gO n _ (Vx ad4)
  obtain ⟨sg,g0,g1,g2,hsg,ug,aeM⟩:=WU wJ bQ
  have aj8:¬ (n:Int)=7:=by omega
  have li:(n:Int)<7:=by omega
  by_cases pi:n=2
  ·subst pi
   have xh:=ug rfl
   subst xh
   simp +contextual only [go_sem,aD,sevalprocAttr,g0]
   have vy:eW en (f+1) 2 op t=if bD yH t=true then (if op+1>100 then .err 4 (pf en t.tail) else (eW en f 2 (op+1) t.tail).bind fun x t=> .ok (nU 3 [x]) t) else eW en f 3 op t:=rfl
   refine iz [(b4,_)] yH gK (fun hs lv2 fp=> ?_) (fun hs lv2 fp=> ?_)
   ·rw [if_pos hs] at vy
    simp +contextual only [go_sem,aD,sevalprocAttr]
    refine dC [(b4,_)] (LF fp h0 (by omega) T4) ?_ ?_
    ·rintro v M2 L2 bh lh aZ ⟨dZ,rfl,b,rfl,WQ⟩
     rw [if_neg (by omega)] at vy
     have fF:=aH bh (fun _ _ h=>h) fp
     simp only [nn,aJ,aK] at aZ
     simp +contextual only [go_sem,sevalprocAttr]
     have Wt:eW en f 2 (op+1) t.tail≠ .out:=fun h=>cu (by rw [vy,h];rfl)
     refine dC [(b4,_)] (ih 2 (op+1) M2 t.tail lv2 T4 (by omega) (by omega) dZ (lC.ext bh) fF Wt) ?_ ?_
     ·rintro v M3 L3 bE HL bB ⟨x,r,lv3,am,rfl,fF, -,cs3,rfl,hx⟩
      simp +contextual only [go_sem,sevalprocAttr]
      refine aI (AU 3 hx T4) ?_
      rintro v M5 dJ bR ⟨cs',rfl,Tx⟩
      obtain ⟨s,rfl,qZ,_⟩:=bX Tx
      simp only [aJ,aK] at bR
      simp +contextual only [go_sem,sevalprocAttr,qZ]
      refine qK [(b4,_)] ((bE.trans dJ) _ _ WQ) rfl ?_
      rw [AZ h0 (by omega)]
      simp +contextual only [go_sem,sevalprocAttr,bR]
      refine al (aQ fG rfl rfl ?_)
      exact ⟨_,r,lv3,by rw [vy,am];rfl,rfl,aH dJ (fun _ _ h=>h) fF,rfl,_,rfl,Tx⟩
     ·rintro ch M3 L3 bE HL bB ⟨c,a,lv3,op3,am,rfl,rfl, -⟩
      rw [xk]
      refine ⟨qE _ _,?_⟩
      refine qK [(b4,_)] (bE _ _ WQ) rfl ?_
      refine al (aQ fG rfl rfl ?_)
      exact ⟨c,a,lv3,_,by rw [vy,am];rfl,rfl,rfl,rfl⟩
    ·rintro ch M2 L2 bh lh aZ ⟨dZ,rfl,op',rfl⟩
     rw [if_pos (by omega)] at vy
     exact IZ [(b4,_)] fG vy
   ·rw [if_neg (by simp [hs])] at vy
    simp +contextual only [go_sem,aD,sevalprocAttr]
    refine tt [(b4,_)] fG (vy.trans (Rs.bind_ok _)) cu (fun h=>ih 3 op M1 t lv2 T4 (by omega) h0 h1 lC fp h) ?_
    rintro v M2 x r lv2 bh aZ am fp ⟨cs,rfl,hx⟩
    obtain ⟨s,rfl,qZ,_⟩:=bX hx
    simp only [nn,aJ,aK] at aZ
    simp +contextual only [go_sem,sevalprocAttr,aZ,qZ]
    refine al (aQ fG rfl rfl ?_)
    exact ⟨x,r,lv2,am,rfl,fp,rfl,_,rfl,hx⟩
  ·obtain ⟨o7,apx,iG,afq,ajx⟩:=Nb n ad4
   obtain ⟨sb,sn,rfl⟩:=aeM (ajx pi)
   have vy:eW en (f+1) n op t=(eW en f (n+1) op t).bind fun x t=>if n=3/\bD wIs t=true then isM en x t else km (eW en f (n+1) op) (gS n) (t.length+1) x t:=by
    conv=>lhs;unfold eW
    rw [if_neg hn7,if_neg pi]
   simp +contextual only [go_sem,aD,sevalprocAttr,g0,aj8,li,aA n (by omega)]
   refine tt [(b4,_)] fG vy cu (fun h=>ih (n+1) op M1 t lv T4 (by omega) h0 h1 lC gK h) ?_
   rintro v M2 x r lv2 bh aZ am fp ⟨cs2,rfl,hx⟩
   obtain ⟨s,rfl,qZ,_⟩:=bX hx
   have g2':=ay bh g2
   simp only [nn,aJ,aK] at aZ
   simp +contextual only [go_sem,aD,sevalprocAttr,qZ,li,g2']
   intro b6 T6 pt gE um CO
   have AE:=fG.trans um
   rw [afq]
   by_cases H2:n=3
   ·subst H2
    simp +contextual only [go_sem,sevalprocAttr]
    refine iz [(b6,_),(b4,_)] wIs fp (fun hs lv3 fF=> ?_) (fun hs lv3 fF=> ?_)
    ·rw [if_pos ⟨rfl,hs⟩] at am
     unfold isM at am
     simp +contextual only [go_sem,aD,sevalprocAttr]
     refine iz [(b6,_),(b4,_)] yH fF (fun oS lv4 kf=> ?_) (fun oS lv4 kf=> ?_)
     ·rw [if_pos oS] at am
      simp +contextual only [go_sem,sevalprocAttr]
      intro b7 mN jv
      refine Kh [(b6,_),(b4,_)] AE am kf ?_
      intro M3 lv5 bE bB am gZ
      simp only [nn,aJ,aK] at bB
      simp +contextual only [go_sem,sevalprocAttr,bB]
      refine aI (AU 16 (bL bE _ _ hx) T6) ?_
      rintro v M5 dJ bR ⟨cs5,rfl,Tx⟩
      obtain ⟨s5,rfl,wX,_⟩:=bX Tx
      simp only [aJ,aK] at bR
      simp +contextual only [go_sem,aD,sevalprocAttr,bR,wX]
      refine aI (AU 3 Tx T6) ?_
      rintro v M6 eP bU ⟨cs6,rfl,hx6⟩
      obtain ⟨s6,rfl,xy,_⟩:=bX hx6
      simp only [aJ,aK] at bU
      simp +contextual only [go_sem,sevalprocAttr,bU,gE,xy]
      refine al (al (aQ AE rfl rfl ?_))
      exact ⟨_,_,lv5,am,rfl,aH (dJ.trans eP) (fun _ _ h=>h) gZ,rfl,_,rfl,by rw [if_pos oS];exact hx6⟩
     ·rw [if_neg (by simp [oS])] at am
      simp +contextual only [go_sem,sevalprocAttr]
      intro b7 mN jv
      refine Kh [(b6,_),(b4,_)] AE am kf ?_
      intro M3 lv5 bE bB am gZ
      simp only [nn,aJ,aK] at bB
      simp +contextual only [go_sem,sevalprocAttr,bB]
      refine aI (AU 16 (bL bE _ _ hx) T6) ?_
      rintro v M5 dJ bR ⟨cs5,rfl,Tx⟩
      obtain ⟨s5,rfl,wX,_⟩:=bX Tx
      simp only [aJ,aK] at bR
      simp +contextual only [go_sem,aD,sevalprocAttr,bR,gE,wX]
      refine al (al (aQ AE rfl rfl ?_))
      exact ⟨_,_,lv5,am,rfl,aH dJ (fun _ _ h=>h) gZ,rfl,_,rfl,by rw [if_neg (by simp [oS])];exact Tx⟩
    ·rw [if_neg (by simp [hs])] at am
     simp +contextual only [go_sem,aD,sevalprocAttr]
     refine gn (fun m e ds h=>ds=[]/\e 0=.pointer (some ⟨pb,0,none⟩)/\e 1=.int .i64 ((3:Nat):Int)/\e 4=.pointer (some ⟨b4,0,none⟩)/\e 5=.slice (some ⟨lb,lo,none⟩) 7 lc/\e 6=.pointer (some ⟨b6,0,none⟩)/\
      ∃ M' x' t' lv' c6 c4,bm M2 M'/\h=⟨T6,M',(b6,c6)::(b4,c4)::pL pb lv' en op,[]⟩/\c4.length=7/\RX M' x' c6/\RS M' gC 3 t' lv'/\M' b6=none/\M' b4=none/\M' pb=none/\eW en (f+1) 3 op t=km (eW en f (3+1) op) (gS 3) m x' t')
      ⟨r.length+1,rfl,by simp only [go_sem,sevalprocAttr],by simp only [go_sem,sevalprocAttr],by simp only [go_sem,sevalprocAttr],by simp only [go_sem,sevalprocAttr],by simp only [go_sem,sevalprocAttr],M2,x,r,lv3,_,_,bm.rfl',rfl,rfl,hx,fF,pt,aZ.1,aZ.2,am⟩ ?_
     rintro m e ds h ⟨rfl,e0,e1,e4,e5,e6,M3,x',t',lv',c6,c4,bE,rfl,hc4,yL,jm,n6,n4,np,am⟩
     obtain ⟨s',rfl,qZ,_⟩:=bX yL
     obtain ⟨q0,q1,q2,q3,q4,q5,q6,rfl⟩:=Dq hc4
     have k0:=ay (bh.trans bE) g0
     have k1:=ay (bh.trans bE) g1
     have k2:=ay (bh.trans bE) g2
     have ZP:=aH (bh.trans bE) (fun _ _ h=>h) hsg
     cases m with
     | zero=>exact (cu (am.trans rfl)).elim
     | succ m=>
      simp only [km] at am
      simp +contextual only [go_sem,aD,sevalprocAttr,e0,e1,e5,k0]
      refine dC [(b6,_),(b4,_)] (uh jm ZP T6) ?_ (fun _ _ _ _ _ _ h=>h.elim)
      rintro v M4 L4 dD hk4 de ⟨rfl,rfl,lv5,rfl,gZ⟩
      cases hj:bC (gS 3).signs t' with
      | none=>
       rw [hj] at am gZ
       simp only [Ff,Hj] at am gZ ⊢
       simp +contextual only [go_sem,aD,sevalprocAttr,e4,e6,n6,n4,gE,qZ]
       refine al (al (aQ AE rfl rfl ?_))
       exact ⟨x',t',lv5,am,rfl,gZ,rfl,_,rfl,yL⟩
      | some j=>
       rw [hj] at am gZ
       simp only [Ff,Hj] at am gZ ⊢
       have tz:=yG hj
       have DP:¬ (j:Int)<0:=by omega
       have hwk:IntKind.i64.wrap ((gS 3).kind+(j:Int))=(gS 3).kind+(j:Int):=bH (by omega) (by omega)
       simp +contextual only [go_sem,aD,sevalprocAttr,DP]
       refine eG ⟨T,M4,[(b6,_)],[]⟩ (eX [] bm.rfl' n6 trivial) ?_
       simp +contextual only [go_sem,sevalprocAttr,e0,e1,e5,e6,k1,n6,hwk]
       refine tt [(b6,_),(b4,_)] AE am cu (fun h=>ih (3+1) op M4 t'.tail lv5 T6 (by omega) h0 h1 ((lC.ext bh).ext bE) gZ h) ?_
       rintro v M5 y r5 lv6 dJ bR am mB ⟨cs5,rfl,hy⟩
       simp only [nn,aJ,aK] at bR
       simp +contextual only [go_sem,sevalprocAttr]
       refine ⟨eX [] dJ bR.1 trivial,?_⟩
       refine aI (JL ((gS 3).kind+(j:Int)) (bL dJ _ _ yL) hy T6) ?_
       rintro v M6 eP bU ⟨cs6,rfl,Kb⟩
       obtain ⟨s6,rfl,xy,_⟩:=bX Kb
       simp only [aJ,aK] at bU
       have k2':=ay (dJ.trans eP) k2
       simp +contextual only [go_sem,sevalprocAttr]
       refine ⟨eX [] (dJ.trans eP) bU.1 trivial,?_⟩
       simp +contextual only [go_sem,aD,sevalprocAttr,e1,e4,e5,e6,bU,gE,xy,k2']
       by_cases ho:(gS 3).once=true
       ·rw [if_pos ho] at am
        simp +contextual only [go_sem,sevalprocAttr,ho]
        refine al (al (aQ AE rfl rfl ?_))
        exact ⟨_,r5,lv6,am,rfl,aH eP (fun _ _ h=>h) mB,rfl,_,rfl,Kb⟩
       ·rw [if_neg ho] at am
        simp +contextual only [go_sem,sevalprocAttr,ho]
        rw [eJ]
        refine aB ⟨m,by omega,rfl,?_,?_,?_,?_,?_,M6,_,r5,lv6,_,_,(bE.trans dJ).trans eP,rfl,rfl,Kb,aH eP (fun _ _ h=>h) mB,bU.1,bU.2.1,bU.2.2,am⟩
        all_goals simp only [e0,e1,e4,e5,e6,go_sem,sevalprocAttr]
   ·rw [if_neg (fun h=>H2 h.1)] at am
    simp +contextual only [go_sem,sevalprocAttr,H2]
    refine gn (fun m e ds h=>ds=[]/\e 0=.pointer (some ⟨pb,0,none⟩)/\e 1=.int .i64 (n:Int)/\e 4=.pointer (some ⟨b4,0,none⟩)/\e 5=.slice (some ⟨lb,lo,none⟩) 7 lc/\e 6=.pointer (some ⟨b6,0,none⟩)/\
     ∃ M' x' t' lv' c6 c4,bm M2 M'/\h=⟨T6,M',(b6,c6)::(b4,c4)::pL pb lv' en op,[]⟩/\c4.length=7/\RX M' x' c6/\RS M' gC 3 t' lv'/\M' b6=none/\M' b4=none/\M' pb=none/\eW en (f+1) n op t=km (eW en f (n+1) op) (gS n) m x' t')
     ⟨r.length+1,rfl,by simp only [go_sem,sevalprocAttr],by simp only [go_sem,sevalprocAttr],by simp only [go_sem,sevalprocAttr],by simp only [go_sem,sevalprocAttr],by simp only [go_sem,sevalprocAttr],M2,x,r,lv2,_,_,bm.rfl',rfl,rfl,hx,fp,pt,aZ.1,aZ.2,am⟩ ?_
    rintro m e ds h ⟨rfl,e0,e1,e4,e5,e6,M3,x',t',lv',c6,c4,bE,rfl,hc4,yL,jm,n6,n4,np,am⟩
    obtain ⟨s',rfl,qZ,_⟩:=bX yL
    obtain ⟨q0,q1,q2,q3,q4,q5,q6,rfl⟩:=Dq hc4
    have k0:=ay (bh.trans bE) g0
    have k1:=ay (bh.trans bE) g1
    have k2:=ay (bh.trans bE) g2
    have ZP:=aH (bh.trans bE) (fun _ _ h=>h) hsg
    cases m with
    | zero=>exact (cu (am.trans rfl)).elim
    | succ m=>
     simp only [km] at am
     simp +contextual only [go_sem,aD,sevalprocAttr,e0,e1,e5,li,k0]
     refine dC [(b6,_),(b4,_)] (uh jm ZP T6) ?_ (fun _ _ _ _ _ _ h=>h.elim)
     rintro v M4 L4 dD hk4 de ⟨rfl,rfl,lv5,rfl,gZ⟩
     cases hj:bC (gS n).signs t' with
     | none=>
      rw [hj] at am gZ
      simp only [Ff,Hj] at am gZ ⊢
      simp +contextual only [go_sem,aD,sevalprocAttr,e4,e6,n6,n4,gE,qZ]
      refine al (al (aQ AE rfl rfl ?_))
      exact ⟨x',t',lv5,am,rfl,gZ,rfl,_,rfl,yL⟩
     | some j=>
      rw [hj] at am gZ
      simp only [Ff,Hj] at am gZ ⊢
      have tz:=yG hj
      have DP:¬ (j:Int)<0:=by omega
      have hwk:IntKind.i64.wrap ((gS n).kind+(j:Int))=(gS n).kind+(j:Int):=bH (by omega) (by omega)
      simp +contextual only [go_sem,aD,sevalprocAttr,DP]
      refine eG ⟨T,M4,[(b6,_)],[]⟩ (eX [] bm.rfl' n6 trivial) ?_
      simp +contextual only [go_sem,sevalprocAttr,e0,e1,e5,e6,li,k1,n6,hwk,aA n (by omega)]
      refine tt [(b6,_),(b4,_)] AE am cu (fun h=>ih (n+1) op M4 t'.tail lv5 T6 (by omega) h0 h1 ((lC.ext bh).ext bE) gZ h) ?_
      rintro v M5 y r5 lv6 dJ bR am mB ⟨cs5,rfl,hy⟩
      simp only [nn,aJ,aK] at bR
      simp +contextual only [go_sem,sevalprocAttr]
      refine ⟨eX [] dJ bR.1 trivial,?_⟩
      refine aI (JL ((gS n).kind+(j:Int)) (bL dJ _ _ yL) hy T6) ?_
      rintro v M6 eP bU ⟨cs6,rfl,Kb⟩
      obtain ⟨s6,rfl,xy,_⟩:=bX Kb
      simp only [aJ,aK] at bU
      have k2':=ay (dJ.trans eP) k2
      simp +contextual only [go_sem,sevalprocAttr]
      refine ⟨eX [] (dJ.trans eP) bU.1 trivial,?_⟩
      simp +contextual only [go_sem,aD,sevalprocAttr,e1,e4,e5,e6,li,bU,gE,xy,k2']
      by_cases ho:(gS n).once=true
      ·rw [if_pos ho] at am
       simp +contextual only [go_sem,sevalprocAttr,ho]
       refine al (al (aQ AE rfl rfl ?_))
       exact ⟨_,r5,lv6,am,rfl,aH eP (fun _ _ h=>h) mB,rfl,_,rfl,Kb⟩
      ·rw [if_neg ho] at am
       simp +contextual only [go_sem,sevalprocAttr,ho]
       rw [eJ]
       refine aB ⟨m,by omega,rfl,?_,?_,?_,?_,?_,M6,_,r5,lv6,_,_,(bE.trans dJ).trans eP,rfl,rfl,Kb,aH eP (fun _ _ h=>h) mB,bU.1,bU.2.1,bU.2.2,am⟩
       all_goals simp only [e0,e1,e4,e5,e6,go_sem,sevalprocAttr]
abbrev wAs:Bs:=[97,115]
abbrev wOn:Bs:=[111,110]
abbrev Cc:Bs:=[106,111,105,110]
abbrev aeH:Bs:=[115,101,109,105]
abbrev adq:Bs:=[97,110,116,105]
abbrev agm:Bs:=[108,101,102,116]
abbrev acA:Bs:=[117,110,105,111,110]
abbrev We:Bs:=[101,120,99,101,112,116]
abbrev abT:Bs:=[97,108,108]
abbrev ady:Bs:=[98,111,111,108]
abbrev akc:Bs:=[105,110,116]
abbrev afH:Bs:=[116,101,120,116]
def jZ:X:=nU 0 []
theorem kP {M:aS}:RX M jZ [.int .i64 0,.int .i64 0,.int .i64 0,st [],st [],st [],.slice none 0 0]:=Fc ⟨Nat.zero_le _,[],.inl ⟨_,_,rfl,rfl,fun _=>rfl⟩,rfl⟩
def asM (en:Int)(t:List Tk):Rs Bs:=if bD wAs t=true then iF en t.tail else .ok [] t
def A8 (en:Int)(ex:List Tk ->Rs X)(t:List Tk):Rs It:=(ex t).bind fun x t=>if bD wAs t=true then (iF en t.tail).bind fun n t=> .ok ⟨x,n⟩ t else .ok ⟨x,[]⟩ t
def YI (i:It)(v:Value)(M:aS):Prop:=∃ cs,v=.agg ⟨cs⟩/\Am M i cs
theorem XS {M:aS}{pb:Nat}{aU:List Tk}{lv:Value}{en op:Int}{ex:List Tk ->Rs X}(hg:eQ M)(hl:RS M gC 3 aU lv)(ix:Zs en pb ex op)(cu:A8 en ex aU≠ .out)(T:Tm):
 bV Tryz.prog 121 [.pointer (some ⟨pb,0,none⟩)] T M (pL pb lv en op) [] (fH pb en op YI (A8 en ex aU)) (gl pb en (A8 en ex aU)):=by
 refine az ajv rfl rfl ?_
 intro bi _
 simp only [aK] at bi
 simp +contextual only [go_sem,sevalprocAttr]
 intro b2 T2 dN fh dy ei
 refine cm [(b2,_)] dy rfl cu (fun h=>ix M _ lv T2 hg hl h) ?_
 rintro v M1 x t lv1 aV bG am gK ⟨cs,rfl,hx⟩
 obtain ⟨s,rfl,h1,_⟩:=bX hx
 simp only [nn,aJ,aK] at bG
 simp +contextual only [go_sem,sevalprocAttr,h1]
 intro b3 T3 ii df fV gD
 have hT:=dy.trans fV
 refine iz [(b3,_),(b2,_)] wAs gK (fun hs lv2 fp=> ?_) (fun hs lv2 fp=> ?_)
 ·rw [if_pos hs] at am
  simp +contextual only [go_sem,aD,sevalprocAttr]
  refine cm [(b3,_),(b2,_)] hT am cu (fun _=>hO (hg.ext aV) fp T3) ?_
  rintro v M2 n t2 lv3 bh aZ am fF rfl
  simp only [nn,aJ,aK] at aZ
  simp +contextual only [go_sem,sevalprocAttr,aZ,df,h1]
  refine al (al (aQ hT rfl rfl ?_))
  exact ⟨_,_,lv3,am,rfl,fF,rfl,_,rfl,_,bL bh _ _ hx,rfl⟩
 ·rw [if_neg (by simp [hs])] at am
  simp +contextual only [go_sem,aD,sevalprocAttr,bG,ii,df,h1]
  refine al (al (aQ hT rfl rfl ?_))
  exact ⟨_,_,lv2,am,rfl,fp,rfl,_,rfl,_,hx,rfl⟩
def mI (en:Int)(ex:List Tk ->Rs X)(k:Int)(t:List Tk):Rs So:=(iF en t).bind fun n t=>(asM en t).bind fun a t=>
 if k≠1 then (bZ en [wOn] t).bind fun _ t=>(ex t).bind fun x t=> .ok ⟨k,n,a,x⟩ t else .ok ⟨k,n,a,jZ⟩ t
def afN (i:So)(v:Value)(M:aS):Prop:=∃ cs,v=.agg ⟨cs⟩/\Gx M i cs
theorem zY {M:aS}{pb:Nat}{aU:List Tk}{lv:Value}{en op k:Int}{ex:List Tk ->Rs X}(hg:eQ M)(hl:RS M gC 3 aU lv)(ix:Zs en pb ex op)(cu:mI en ex k aU≠ .out)(T:Tm):
 bV Tryz.prog 122 [.pointer (some ⟨pb,0,none⟩),.int .i64 k] T M (pL pb lv en op) [] (fH pb en op afN (mI en ex k aU)) (gl pb en (mI en ex k aU)):=by
 refine az ajV rfl rfl ?_
 intro bi _
 simp only [aK] at bi
 simp +contextual only [go_sem,sevalprocAttr]
 intro b2 T2 dN fh dy ei
 refine cm [(b2,_)] dy rfl cu (fun _=>hO hg hl T2) ?_
 rintro v M1 n t lv1 aV bG am gK rfl
 simp only [nn,aJ,aK] at bG
 simp +contextual only [go_sem,sevalprocAttr]
 intro b3 T3 ii df fV gD
 have hT:=dy.trans fV
 refine iz [(b3,_),(b2,_)] wAs gK (fun hs lv2 fp=> ?_) (fun hs lv2 fp=> ?_)
 ·unfold asM at am
  rw [if_pos hs] at am
  simp +contextual only [go_sem,aD,sevalprocAttr]
  refine cm [(b3,_),(b2,_)] hT am cu (fun _=>hO (hg.ext aV) fp T3) ?_
  rintro v M2 a t2 lv3 bh aZ am fF rfl
  simp only [nn,aJ,aK] at aZ
  by_cases hk:k=1
  ·subst hk
   rw [if_neg (fun h=>h rfl)] at am
   simp +contextual only [go_sem,aD,sevalprocAttr,aZ,df]
   refine al (al (aQ hT rfl rfl ?_))
   exact ⟨_,_,lv3,am,rfl,fF,rfl,_,rfl,_,kP,rfl⟩
  ·rw [if_pos hk] at am
   simp +contextual only [go_sem,aD,sevalprocAttr,hk]
   intro b4 eN eE
   refine dM [(b3,_),(b2,_)] hT am fF ?_
   intro M3 lv4 bE bB am kf
   simp +contextual only [go_sem,sevalprocAttr]
   refine cm [(b3,_),(b2,_)] hT am cu (fun h=>ix M3 _ lv4 T3 (((hg.ext aV).ext bh).ext bE) kf h) ?_
   rintro v M4 x t4 lv5 dD de am gZ ⟨cs,rfl,hx⟩
   obtain ⟨s,rfl,h1,_⟩:=bX hx
   simp only [nn,aJ,aK] at de
   simp +contextual only [go_sem,sevalprocAttr,de,df,h1]
   refine al (al (aQ hT rfl rfl ?_))
   exact ⟨_,_,lv5,am,rfl,gZ,rfl,_,rfl,_,hx,rfl⟩
 ·unfold asM at am
  rw [if_neg (by simp [hs])] at am
  by_cases hk:k=1
  ·subst hk
   simp only [Rs.bind] at am
   rw [if_neg (fun h=>h rfl)] at am
   simp +contextual only [go_sem,aD,sevalprocAttr,bG,ii,df]
   refine al (al (aQ hT rfl rfl ?_))
   exact ⟨_,_,lv2,am,rfl,fp,rfl,_,rfl,_,kP,rfl⟩
  ·have am:mI en ex k aU=(bZ en [wOn] t).bind fun _ t=>(ex t).bind fun x t=> .ok ⟨k,n,[],x⟩ t:=am.trans (if_pos hk)
   simp +contextual only [go_sem,aD,sevalprocAttr,hk]
   intro b4 eN eE
   refine dM [(b3,_),(b2,_)] hT am fp ?_
   intro M3 lv4 bE bB am kf
   simp +contextual only [go_sem,sevalprocAttr]
   refine cm [(b3,_),(b2,_)] hT am cu (fun h=>ix M3 _ lv4 T3 ((hg.ext aV).ext bE) kf h) ?_
   rintro v M4 x t4 lv5 dD de am gZ ⟨cs,rfl,hx⟩
   obtain ⟨s,rfl,h1,_⟩:=bX hx
   simp only [nn,aJ,aK] at de
   simp +contextual only [go_sem,sevalprocAttr,de,df,h1]
   refine al (al (aQ hT rfl rfl ?_))
   exact ⟨_,_,lv5,am,rfl,gZ,rfl,_,rfl,_,hx,rfl⟩
def l8:List Bs:=[Cc,aeH,adq,agm]
def uo (en:Int)(t:List Tk):Rs Int:=match bC l8 t with
 | none=> .ok 0 t
 | some j=>if j=0 then .ok 2 t.tail else (bZ en [Cc] t.tail).bind fun _ t=> .ok (2+j) t
theorem ef {en:Int}{l:List Bs}{t:List Tk}:bZ en l t≠ .out:=by
 induction l generalizing t with
 | nil=>simp [bZ]
 | cons s l ih=>
  simp only [bZ]
  split
  ·exact ih
  ·simp
theorem Ev {en:Int}{t:List Tk}:uo en t≠ .out:=by
 unfold uo
 split
 ·simp
 ·split
  ·simp
  ·intro h
   cases hn:bZ en [Cc] t.tail with
   | out=>exact ef hn
   | ok a r=>rw [hn] at h;cases h
   | err e a=>rw [hn] at h;cases h
theorem KH {M:aS}{pb:Nat}{aU:List Tk}{lv:Value}{en op:Int}(hl:RS M gC 3 aU lv)(T:Tm):
 bV Tryz.prog 123 [.pointer (some ⟨pb,0,none⟩)] T M (pL pb lv en op) [] (fH pb en op (fun k v _=>v=.int .i64 k) (uo en aU)) (gl pb en (uo en aU)):=by
 refine az agj rfl rfl ?_
 intro bi _
 simp only [aK] at bi
 simp +contextual only [go_sem,aD,sevalprocAttr]
 intro b4 eN eE
 refine bY 4 7 [(0,.pointer (some ⟨pb,0,none⟩)),(5,.slice (some ⟨b4,0,none⟩) 4 4),(6,.int .i64 4)]
  (fun i e h=>(∃ M' lv',bm M M'/\h=⟨T,M',pL pb lv' en op,[]⟩/\M' b4=some (l8.map st)/\RS M' gC 3 aU lv'/\M' pb=none)/\bC l8 aU=(bC (l8.drop i) aU).map (·+i))
  0 (by omega) (by simp only [aE,go_sem,sevalprocAttr]) (by simp only [go_sem,sevalprocAttr]) (aT fun he hb bi=>aB ⟨⟨_,lv,he,rfl,hb,aH he (fun _ _ h=>h) hl,by simpa only [aK] using bi⟩,by simp⟩) ?_
 rintro i e h hi aG ht ⟨⟨M2,lv6,bh,rfl,hw,mB,hnp⟩,li⟩
 simp only [aE] at aG
 by_cases aL:i<4
 ·have nB:i<l8.length:=aL
  have bK:l8.drop i=l8[i]::l8.drop (i+1):=dq nB
  rw [bK] at li
  have hx:aN M2 ⟨b4,i,none⟩=some (st l8[i]):=by
   rw [bg hw,List.getElem?_map,gq nB]
   rfl
  have Uz:(i:Int)<4:=by omega
  simp +contextual only [go_sem,aD,sevalprocAttr,aG,ht,Uz,hx]
  refine iz [] l8[i] mB (fun hs lv7 o5=> ?_) (fun hs lv7 o5=> ?_)
  ·have EK:bC l8 aU=some i:=by rw [li];simp [bC,hs]
   have Mp:IntKind.i64.wrap (2+(i:Int))=2+(i:Int):=bH (by omega) (by omega)
   have hj:uo en aU=if i=0 then .ok 2 aU.tail else (bZ en [Cc] aU.tail).bind fun _ t=> .ok (2+(i:Int)) t:=by unfold uo;rw [EK]
   have hjw:(l8[i]=Cc) ↔ i=0:=by
    have:∀ i (h:i<4),(l8[i]'h=Cc) ↔ i=0:=by decide
    exact this i aL
   by_cases h0:i=0
   ·rw [if_pos h0] at hj
    have DP:=hjw.2 h0
    simp +contextual only [go_sem,aD,sevalprocAttr,DP,Mp]
    refine aQ aF.rfl' rfl rfl ?_
    exact ⟨_,_,lv7,hj,rfl,o5,rfl,by simp [h0]⟩
   ·rw [if_neg h0] at hj
    have DP:¬ l8[i]=[106,111,105,110]:=fun h=>h0 (hjw.1 h)
    simp +contextual only [go_sem,aD,sevalprocAttr,aG,DP]
    intro b5 j6 ea
    refine dM [] aF.rfl' hj o5 ?_
    intro M3 lv8 bE bB am tU
    simp +contextual only [go_sem,sevalprocAttr,Mp]
    refine aQ aF.rfl' rfl rfl ?_
    exact ⟨_,_,lv8,am,rfl,tU,rfl,rfl⟩
  ·simp +contextual only [go_sem,aD,sevalprocAttr,ht]
   refine ce aL ?_ ?_ ⟨⟨M2,lv7,bh,rfl,hw,o5,hnp⟩,?_⟩
   ·simp only [aE,aG,go_sem,sevalprocAttr]
   ·simp only [go_sem,sevalprocAttr,aA i (by omega)]
   ·rw [li]
    simp only [bC,hs,Bool.false_eq_true,if_false,Option.map_map]
    congr 1
    funext n
    simp only [Function.comp];omega
 ·have:i=4:=by omega
  subst this
  have EK:bC l8 aU=none:=by rw [li];rfl
  have h33:¬ ((4:Nat):Int)<4:=by omega
  simp +contextual only [go_sem,aD,sevalprocAttr,aG,ht]
  refine aQ aF.rfl' rfl rfl ?_
  exact ⟨0,aU,lv6,by unfold uo;rw [EK],rfl,mB,rfl,rfl⟩
def wY:List Bs:=[acA,We]
def Dk (t:List Tk):Rs Int:=match bC wY t with
 | none=> .ok 0 t
 | some k=>if bD abT t.tail=true then .ok (2*k+1) t.tail.tail else .ok (2*k+2) t.tail
theorem LY {t:List Tk}:Dk t≠ .out:=by
 unfold Dk
 split
 ·simp
 ·split<;>simp
theorem TU {M:aS}{pb:Nat}{aU:List Tk}{lv:Value}{en op:Int}(hl:RS M gC 3 aU lv)(T:Tm):
 bV Tryz.prog 77 [.pointer (some ⟨pb,0,none⟩)] T M (pL pb lv en op) [] (fH pb en op (fun k v _=>v=.int .i64 k) (Dk aU)) (gl pb en (Dk aU)):=by
 refine az F77 rfl rfl ?_
 intro bi _
 simp only [aK] at bi
 simp +contextual only [go_sem,aD,sevalprocAttr]
 intro b4 eN eE
 refine bY 2 7 [(0,.pointer (some ⟨pb,0,none⟩)),(5,.slice (some ⟨b4,0,none⟩) 2 2),(6,.int .i64 2)]
  (fun i e h=>(∃ M' lv',bm M M'/\h=⟨T,M',pL pb lv' en op,[]⟩/\M' b4=some (wY.map st)/\RS M' gC 3 aU lv'/\M' pb=none)/\bC wY aU=(bC (wY.drop i) aU).map (·+i))
  0 (by omega) (by simp only [aE,go_sem,sevalprocAttr]) (by simp only [go_sem,sevalprocAttr]) (aT fun he hb bi=>aB ⟨⟨_,lv,he,rfl,hb,aH he (fun _ _ h=>h) hl,by simpa only [aK] using bi⟩,by simp⟩) ?_
 rintro i e h hi aG ht ⟨⟨M2,lv6,bh,rfl,hw,mB,hnp⟩,li⟩
 simp only [aE] at aG
 by_cases aL:i<2
 ·have nB:i<wY.length:=aL
  have bK:wY.drop i=wY[i]::wY.drop (i+1):=dq nB
  rw [bK] at li
  have hx:aN M2 ⟨b4,i,none⟩=some (st wY[i]):=by
   rw [bg hw,List.getElem?_map,gq nB]
   rfl
  have Uz:(i:Int)<2:=by omega
  simp +contextual only [go_sem,aD,sevalprocAttr,aG,ht,Uz,hx]
  refine iz [] wY[i] mB (fun hs lv7 o5=> ?_) (fun hs lv7 o5=> ?_)
  ·have EK:bC wY aU=some i:=by rw [li];simp [bC,hs]
   have FG:IntKind.i64.wrap (2*(i:Int))=2*(i:Int):=bH (by omega) (by omega)
   have hw2:IntKind.i64.wrap (2*(i:Int)+1)=2*(i:Int)+1:=bH (by omega) (by omega)
   have hw3:IntKind.i64.wrap (2*(i:Int)+2)=2*(i:Int)+2:=bH (by omega) (by omega)
   have hj:Dk aU=if bD abT aU.tail=true then .ok (2*(i:Int)+1) aU.tail.tail else .ok (2*(i:Int)+2) aU.tail:=by unfold Dk;rw [EK]
   simp +contextual only [go_sem,aD,sevalprocAttr,aG]
   refine iz [] abT o5 (fun oS lv8 tU=> ?_) (fun oS lv8 tU=> ?_)
   ·rw [if_pos oS] at hj
    simp +contextual only [go_sem,aD,sevalprocAttr,FG,hw2]
    refine aQ aF.rfl' rfl rfl ?_
    exact ⟨_,_,lv8,hj,rfl,tU,rfl,rfl⟩
   ·rw [if_neg (by simp [oS])] at hj
    simp +contextual only [go_sem,aD,sevalprocAttr,FG,hw3]
    refine aQ aF.rfl' rfl rfl ?_
    exact ⟨_,_,lv8,hj,rfl,tU,rfl,rfl⟩
  ·simp +contextual only [go_sem,aD,sevalprocAttr,ht]
   refine ce aL ?_ ?_ ⟨⟨M2,lv7,bh,rfl,hw,o5,hnp⟩,?_⟩
   ·simp only [aE,aG,go_sem,sevalprocAttr]
   ·simp only [go_sem,sevalprocAttr,aA i (by omega)]
   ·rw [li]
    simp only [bC,hs,Bool.false_eq_true,if_false,Option.map_map]
    congr 1
    funext n
    simp only [Function.comp];omega
 ·have:i=2:=by omega
  subst this
  have EK:bC wY aU=none:=by rw [li];rfl
  have h33:¬ ((2:Nat):Int)<2:=by omega
  simp +contextual only [go_sem,aD,sevalprocAttr,aG,ht]
  refine aQ aF.rfl' rfl rfl ?_
  exact ⟨0,aU,lv6,by unfold Dk;rw [EK],rfl,mB,rfl,rfl⟩
def o8:List Bs:=[ady,akc,afH]
def qH (en:Int)(t:List Tk):Rs Co:=(iF en t).bind fun n t=>match bC o8 t with
 | none=> .err 2 (pf en t)
 | some k=> .ok ⟨n,2+k⟩ t.tail
theorem jb {en:Int}{t:List Tk}:iF en t≠ .out:=by
 cases t with
 | nil=>simp [iF]
 | cons t r=>
  simp only [iF]
  split
  ·split<;>simp
  ·simp
theorem yA {en:Int}{t:List Tk}:qH en t≠ .out:=by
 unfold qH
 cases hn:iF en t with
 | out=>exact (jb hn).elim
 | ok a r=>simp only [Rs.bind];split<;>simp
 | err e a=>simp [Rs.bind]
def Zo (i:Co)(v:Value)(M:aS):Prop:=∃ cs,v=.agg ⟨cs⟩/\ua i cs
theorem Oz {M:aS}{pb:Nat}{aU:List Tk}{lv:Value}{en op:Int}(hg:eQ M)(hl:RS M gC 3 aU lv)(T:Tm):
 bV Tryz.prog 45 [.pointer (some ⟨pb,0,none⟩)] T M (pL pb lv en op) [] (fH pb en op Zo (qH en aU)) (gl pb en (qH en aU)):=by
 refine az F45 rfl rfl ?_
 intro bi _
 simp only [aK] at bi
 simp +contextual only [go_sem,sevalprocAttr]
 intro b2 T2 dN fh dy ei
 refine cm [(b2,_)] dy rfl yA (fun _=>hO hg hl T2) ?_
 rintro v M1 n t lv1 aV bG am gK rfl
 simp only [nn,aJ,aK] at bG
 simp +contextual only [go_sem,aD,sevalprocAttr]
 intro b3 T3 ii df fV gD b4 eN eE
 have hT:=dy.trans fV
 refine bY 3 11 [(0,.pointer (some ⟨pb,0,none⟩)),(2,.pointer (some ⟨b2,0,none⟩)),(3,.pointer (some ⟨b3,0,none⟩)),(9,.slice (some ⟨b4,0,none⟩) 3 3),(10,.int .i64 3)]
  (fun i e h=>(∃ M' lv',bm M1 M'/\h=⟨T3,M',(b3,[.string (bs n),.int .i64 0])::(b2,[.string (bs []),.int .i64 0])::pL pb lv' en op,[]⟩/\M' b4=some (o8.map st)/\RS M' gC 3 t lv'/\M' b3=none/\M' b2=none/\M' pb=none)/\bC o8 t=(bC (o8.drop i) t).map (·+i))
  0 (by omega) (by simp only [aE,go_sem,sevalprocAttr]) (by simp only [go_sem,sevalprocAttr]) (aT fun he hb bi=>aB ⟨⟨_,lv1,he,rfl,hb,aH he (fun _ _ h=>h) gK,bi.1,bi.2.1,by simpa only [aK] using bi.2.2⟩,by simp⟩) ?_
 rintro i e h hi aG ht ⟨⟨M2,lv6,bh,rfl,hw,mB,H2,pi,hnp⟩,li⟩
 simp only [aE] at aG
 by_cases aL:i<3
 ·have nB:i<o8.length:=aL
  have bK:o8.drop i=o8[i]::o8.drop (i+1):=dq nB
  rw [bK] at li
  have hx:aN M2 ⟨b4,i,none⟩=some (st o8[i]):=by
   rw [bg hw,List.getElem?_map,gq nB]
   rfl
  have Uz:(i:Int)<3:=by omega
  simp +contextual only [go_sem,aD,sevalprocAttr,aG,ht,Uz,hx]
  refine iz [(b3,_),(b2,_)] o8[i] mB (fun hs lv7 o5=> ?_) (fun hs lv7 o5=> ?_)
  ·have EK:bC o8 t=some i:=by rw [li];simp [bC,hs]
   have Mp:IntKind.i64.wrap (2+(i:Int))=2+(i:Int):=bH (by omega) (by omega)
   rw [EK] at am
   simp +contextual only [go_sem,aD,sevalprocAttr,aG,Mp,H2,pi,df]
   refine al (al (aQ hT rfl rfl ?_))
   exact ⟨_,_,lv7,am,rfl,o5,rfl,_,rfl,rfl⟩
  ·simp +contextual only [go_sem,aD,sevalprocAttr,ht]
   refine ce aL ?_ ?_ ⟨⟨M2,lv7,bh,rfl,hw,o5,H2,pi,hnp⟩,?_⟩
   ·simp only [aE,aG,go_sem,sevalprocAttr]
   ·simp only [go_sem,sevalprocAttr,aA i (by omega)]
   ·rw [li]
    simp only [bC,hs,Bool.false_eq_true,if_false,Option.map_map]
    congr 1
    funext n
    simp only [Function.comp];omega
 ·have:i=3:=by omega
  subst this
  have EK:bC o8 t=none:=by rw [li];rfl
  rw [EK] at am
  have h33:¬ ((3:Nat):Int)<3:=by omega
  simp +contextual only [go_sem,aD,sevalprocAttr,aG,ht]
  refine mp [(b3,_),(b2,_)] mB ?_
  simp +contextual only [go_sem,sevalprocAttr]
  exact fy [(b3,_),(b2,_)] hT am
end Go.Proofs.YtmeeifechggoeaaGreatDoor
