import Derived.Test.YtcpjbohndglclaaGreatDoorProg
import Derived.Test.YtcpjbohndglclaaGreatDoorB
import Derived.Shelf.Strings.Builder1
import Derived.Shelf.Small.Bits
import Derived.Shelf.Small.Strs
import Derived.Shelf.Strconv.Itoa0
import Derived.Shelf.Strconv.Itoa1
import Derived.Shelf.LaysM
import Derived.Shelf.Strconv.Itoa2
import Derived.Shelf.Strconv.Itoa3
import Derived.Shelf.Strconv.ParseIntEmpty
import Derived.Shelf.Strconv.Clone
import Derived.Shelf.Strconv.SyntaxError
import Derived.Shelf.LaysC
import Derived.Shelf.Strconv.ToError
import Derived.Shelf.Strconv.Lower
import Derived.Shelf.Strconv.ParseUint10
import Derived.Shelf.Strconv.ParseUint10Empty
import Derived.Shelf.Strconv.ParseUint10Any
import Derived.Shelf.Strconv.ParseInt10
import Derived.Shelf.Strconv.RangeError
import Derived.Shelf.Strconv.ToErrorRange
import Derived.Shelf.Strconv.ParseUintEmpty
import Derived.Shelf.Strconv.ParseUint10b64
import Derived.Shelf.Strconv.ParseUint10b32
import Derived.Shelf.Strconv.ParseUint10b16
import Derived.Shelf.Strconv.ParseUint10b8
import Derived.Shelf.Strconv.ParseUint10At
import Derived.Shelf.Strconv.ParseInt10At64
import Derived.Shelf.Strconv.ParseInt10At32
import Derived.Shelf.Strconv.ParseInt10At16
import Derived.Shelf.Strconv.ParseInt10At8
import Derived.Shelf.Strconv.ParseInt10All
import Derived.Shelf.Strconv.ParseIntPublic10
import Derived.Shelf.Strings.Search1
import Derived.Shelf.Strings.Prefix
import Derived.Shelf.Strings.Fields
import Derived.Shelf.Strings.SplitShaped
import Derived.Shelf.Unicode.Latin
import Derived.Shelf.Unicode.Is16White
import Derived.Shelf.Unicode.IsSpaceAny
import Derived.Shelf.Unicode.Is16Any
import Derived.Shelf.Unicode.Is32Any
import Derived.Shelf.Unicode.ExclAny
import Derived.Ground.Names2Prog
import Derived.Shelf.Slices.Clone
import Derived.Shelf.Slices.SearchI
import Derived.Ground.SlgnProg
import Derived.Shelf.SlicesE.Clone
import Derived.Lib.ParseIntB
set_option linter.all false
namespace Go.Proofs.YtcpjbohndglclaaGreatDoor
open Go Vc
theorem mx:Tryz.prog.follows .mixedOrders=true:=by kernel_rfl
def F3:FnF Tryz.prog 3 Tryz.f3 94 [(13,.take 0<| .take 1<| .take 3<| .take 4<| .take 2<| .take 5<| .take 6<| .take 7<| .take 8<| .take 9<| .take 11<| .take 12<| .take 10<| .take 13<| .take 14<| .take 15<| .take 16<| .take 17<| .take 19<| .take 20<| .take 18<| .take 21<| .take 22<| .take 23<| .take 24<| .done),(16,.take 0<| .take 1<| .take 2<| .take 3<| .take 8<| .take 9<| .take 10<| .take 4<| .take 5<| .take 6<| .take 11<| .take 12<| .take 13<| .eff 7 false (.eff 14 false (.eff 15 false (.eff 16 false (.eff 17 false (.take 18<| .done)<| .no)<| .no)<| .no)<| .no)<| .no),(17,.take 1<| .take 2<| .take 3<| .take 5<| .take 6<| .take 7<| .take 8<| .eff 0 true (.eff 4 true (.eff 9 true (.take 10<| .done)<| .no)<| .no)<| .no)] [.tmp 2]:=bV mx Tryz.func3 (by kernel_rfl) (by kernel_rfl)
def F4:FnF Tryz.prog 4 Tryz.f4 36 [] [.tmp 4]:=bV mx Tryz.func4 (by kernel_rfl) (by kernel_rfl)
def F5:FnF Tryz.prog 5 Tryz.f5 5 [] [.cell 2 27]:=bV mx Tryz.func5 (by kernel_rfl) (by kernel_rfl)
def F6:FnF Tryz.prog 6 Tryz.f6 51 [] [.tmp 8]:=bV mx Tryz.func6 (by kernel_rfl) (by kernel_rfl)
def F7:FnF Tryz.prog 7 Tryz.f7 64 [(6,.take 0<| .take 2<| .take 1<| .take 3<| .done),(9,.take 0<| .take 2<| .take 1<| .take 3<| .done),(12,.take 0<| .take 2<| .take 1<| .take 3<| .done)] [.tmp 6,.tmp 7]:=bV mx Tryz.func7 (by kernel_rfl) (by kernel_rfl)
def F8:FnF Tryz.prog 8 Tryz.f8 30 [] [.tmp 2,.tmp 3]:=bV mx Tryz.func8 (by kernel_rfl) (by kernel_rfl)
def F9:FnF Tryz.prog 9 Tryz.f9 71 [(6,.take 0<| .take 1<| .take 2<| .take 3<| .take 5<| .take 6<| .take 7<| .take 8<| .take 4<| .take 9<| .take 10<| .take 11<| .take 12<| .take 13<| .take 14<| .take 15<| .take 18<| .take 19<| .take 20<| .take 21<| .take 16<| .take 17<| .take 22<| .take 23<| .take 24<| .take 25<| .done),(11,.take 0<| .take 1<| .take 2<| .take 3<| .take 5<| .take 8<| .take 9<| .take 10<| .take 11<| .take 13<| .take 4<| .take 6<| .take 7<| .take 12<| .take 14<| .take 15<| .take 16<| .done)] [.tmp 4]:=bV mx Tryz.func9 (by kernel_rfl) (by kernel_rfl)
def F10:FnF Tryz.prog 10 Tryz.f10 17 [] [.tmp 2,.tmp 3]:=bV mx Tryz.func10 (by kernel_rfl) (by kernel_rfl)
def F11:FnF Tryz.prog 11 Tryz.f11 43 [(6,.take 1<| .take 0<| .eff 2 false (.eff 3 false (.eff 4 true (.eff 5 true (.done)<| .no)<| .no)<| .no)<| .no),(10,.take 0<| .take 1<| .take 2<| .eff 3 false (.eff 4 true (.done)<| .no)<| .no),(11,.take 0<| .take 1<| .eff 2 false (.eff 3 true (.done)<| .no)<| .no)] [.cell 2 42,.cell 3 44]:=bV mx Tryz.func11 (by kernel_rfl) (by kernel_rfl)
def F12:FnF Tryz.prog 12 Tryz.f12 64 [(3,.take 1<| .take 0<| .eff 2 true (.done)<| .no)] [.tmp 2,.cell 3 44]:=bV mx Tryz.func12 (by kernel_rfl) (by kernel_rfl)
def F13:FnF Tryz.prog 13 Tryz.f13 36 [] [.tmp 2]:=bV mx Tryz.func13 (by kernel_rfl) (by kernel_rfl)
def F14:FnF Tryz.prog 14 Tryz.f14 29 [(5,.take 0<| .take 2<| .take 1<| .eff 3 false (.eff 4 false (.eff 5 true (.take 6<| .eff 7 true (.done)<| .no)<| .no)<| .no)<| .no)] [.tmp 4]:=bV mx Tryz.func14 (by kernel_rfl) (by kernel_rfl)
def F15:FnF Tryz.prog 15 Tryz.f15 21 [] [.tmp 2]:=bV mx Tryz.func15 (by kernel_rfl) (by kernel_rfl)
def F16:FnF Tryz.prog 16 Tryz.f16 9 [] [.tmp 2]:=bV mx Tryz.func16 (by kernel_rfl) (by kernel_rfl)
def F17:FnF Tryz.prog 17 Tryz.f17 24 [] [.tmp 2,.tmp 3]:=bV mx Tryz.func17 (by kernel_rfl) (by kernel_rfl)
def F18:FnF Tryz.prog 18 Tryz.f18 16 [] [.tmp 0]:=bV mx Tryz.func18 (by kernel_rfl) (by kernel_rfl)
def F19:FnF Tryz.prog 19 Tryz.f19 19 [] [.tmp 4]:=bV mx Tryz.func19 (by kernel_rfl) (by kernel_rfl)
def F20:FnF Tryz.prog 20 Tryz.f20 8 [] [.tmp 3]:=bV mx Tryz.func20 (by kernel_rfl) (by kernel_rfl)
def F21:FnF Tryz.prog 21 Tryz.f21 13 [(7,.take 0<| .take 1<| .eff 2 false (.eff 3 true (.done)<| .no)<| .no)] []:=bV mx Tryz.func21 (by kernel_rfl) (by kernel_rfl)
def F22:FnF Tryz.prog 22 Tryz.f22 38 [] [.tmp 2]:=bV mx Tryz.func22 (by kernel_rfl) (by kernel_rfl)
def F23:FnF Tryz.prog 23 Tryz.f23 9 [] []:=bV mx Tryz.func23 (by kernel_rfl) (by kernel_rfl)
def F24:FnF Tryz.prog 24 Tryz.f24 20 [] [.tmp 2]:=bV mx Tryz.func24 (by kernel_rfl) (by kernel_rfl)
def F25:FnF Tryz.prog 25 Tryz.f25 82 [] [.cell 2 60]:=bV mx Tryz.func25 (by kernel_rfl) (by kernel_rfl)
def F26:FnF Tryz.prog 26 Tryz.f26 20 [] []:=bV mx Tryz.func26 (by kernel_rfl) (by kernel_rfl)
def F27:FnF Tryz.prog 27 Tryz.f27 25 [] [.cell 2 44]:=bV mx Tryz.func27 (by kernel_rfl) (by kernel_rfl)
def F28:FnF Tryz.prog 28 Tryz.f28 43 [(1,.take 0<| .take 1<| .take 2<| .take 4<| .take 5<| .take 6<| .take 3<| .take 7<| .take 8<| .eff 9 false (.eff 10 true (.done)<| .no)<| .no),(5,.take 0<| .take 1<| .take 2<| .take 3<| .take 4<| .take 9<| .take 10<| .take 11<| .take 5<| .take 6<| .take 12<| .eff 7 false (.eff 8 false (.eff 13 false (.eff 14 false (.take 15<| .take 16<| .eff 17 true (.take 18<| .take 19<| .eff 20 true (.done)<| .no)<| .no)<| .no)<| .no)<| .eff 13 false (.eff 8 false (.eff 14 false (.take 15<| .take 16<| .eff 17 true (.take 18<| .take 19<| .eff 20 true (.done)<| .no)<| .no)<| .no)<| .no)<| .no)<| .eff 13 false (.eff 7 false (.eff 8 false (.eff 14 false (.take 15<| .take 16<| .eff 17 true (.take 18<| .take 19<| .eff 20 true (.done)<| .no)<| .no)<| .no)<| .no)<| .no)<| .no)] [.tmp 4]:=bV mx Tryz.func28 (by kernel_rfl) (by kernel_rfl)
def F29:FnF Tryz.prog 29 Tryz.f29 77 [(1,.take 0<| .take 1<| .take 2<| .take 4<| .take 5<| .take 6<| .take 3<| .take 7<| .eff 8 false (.take 9<| .take 10<| .take 11<| .take 12<| .eff 13 false (.eff 14 true (.take 15<| .take 16<| .done)<| .no)<| .no)<| .eff 13 false (.eff 8 true (.take 9<| .take 10<| .take 11<| .take 12<| .eff 14 true (.take 15<| .take 16<| .done)<| .no)<| .no)<| .no),(4,.take 0<| .take 1<| .take 2<| .take 4<| .take 3<| .take 5<| .take 6<| .eff 7 false (.eff 8 true (.done)<| .no)<| .no),(8,.take 0<| .take 1<| .take 2<| .take 6<| .take 7<| .take 8<| .take 3<| .take 5<| .take 9<| .eff 4 false (.eff 10 false (.take 11<| .take 12<| .take 13<| .take 14<| .take 15<| .done)<| .no)<| .no),(11,.take 0<| .take 1<| .take 2<| .take 3<| .take 4<| .take 9<| .take 10<| .take 11<| .take 13<| .take 5<| .take 6<| .take 12<| .eff 7 false (.eff 8 false (.eff 14 false (.eff 15 false (.take 16<| .take 17<| .eff 18 true (.take 19<| .take 20<| .eff 21 true (.done)<| .no)<| .no)<| .no)<| .no)<| .eff 14 false (.eff 8 false (.eff 15 false (.take 16<| .take 17<| .eff 18 true (.take 19<| .take 20<| .eff 21 true (.done)<| .no)<| .no)<| .no)<| .no)<| .no)<| .eff 14 false (.eff 7 false (.eff 8 false (.eff 15 false (.take 16<| .take 17<| .eff 18 true (.take 19<| .take 20<| .eff 21 true (.done)<| .no)<| .no)<| .no)<| .no)<| .no)<| .no)] [.tmp 4]:=bV mx Tryz.func29 (by kernel_rfl) (by kernel_rfl)
def F30:FnF Tryz.prog 30 Tryz.f30 65 [] [.tmp 4]:=bV mx Tryz.func30 (by kernel_rfl) (by kernel_rfl)
def F32:FnF Tryz.prog 32 Tryz.f32 64 [(1,.take 0<| .take 1<| .take 2<| .take 4<| .take 5<| .take 6<| .take 3<| .take 7<| .eff 8 false (.take 9<| .take 10<| .take 11<| .take 12<| .eff 13 false (.eff 14 true (.take 15<| .take 16<| .done)<| .no)<| .no)<| .eff 13 false (.eff 8 true (.take 9<| .take 10<| .take 11<| .take 12<| .eff 14 true (.take 15<| .take 16<| .done)<| .no)<| .no)<| .no)] [.tmp 6]:=bV mx Tryz.func32 (by kernel_rfl) (by kernel_rfl)
def F33:FnF Tryz.prog 33 Tryz.f33 27 [] [.tmp 4]:=bV mx Tryz.func33 (by kernel_rfl) (by kernel_rfl)
def F34:FnF Tryz.prog 34 Tryz.f34 24 [] [.tmp 2]:=bV mx Tryz.func34 (by kernel_rfl) (by kernel_rfl)
def F35:FnF Tryz.prog 35 Tryz.f35 48 [] [.tmp 2]:=bV mx Tryz.func35 (by kernel_rfl) (by kernel_rfl)
def F36:FnF Tryz.prog 36 Tryz.f36 67 [] [.tmp 6]:=bV mx Tryz.func36 (by kernel_rfl) (by kernel_rfl)
def F37:FnF Tryz.prog 37 Tryz.f37 20 [] [.tmp 2,.tmp 3]:=bV mx Tryz.func37 (by kernel_rfl) (by kernel_rfl)
def F39:FnF Tryz.prog 39 Tryz.f39 102 [] [.cell 4 101,.tmp 5]:=bV mx Tryz.func39 (by kernel_rfl) (by kernel_rfl)
def F40:FnF Tryz.prog 40 Tryz.f40 17 [] [.tmp 4]:=bV mx Tryz.func40 (by kernel_rfl) (by kernel_rfl)
def F41:FnF Tryz.prog 41 Tryz.f41 45 [] [.tmp 2]:=bV mx Tryz.func41 (by kernel_rfl) (by kernel_rfl)
def F42:FnF Tryz.prog 42 Tryz.f42 65 [(7,.take 0<| .take 2<| .take 5<| .take 7<| .take 1<| .take 6<| .eff 3 false (.eff 4 false (.take 11<| .eff 8 false (.eff 9 false (.eff 10 false (.eff 12 true (.take 13<| .eff 14 true (.done)<| .no)<| .no)<| .no)<| .no)<| .no)<| .no)<| .no)] [.cell 2 56]:=bV mx Tryz.func42 (by kernel_rfl) (by kernel_rfl)
def F43:FnF Tryz.prog 43 Tryz.f43 24 [] [.tmp 6]:=bV mx Tryz.func43 (by kernel_rfl) (by kernel_rfl)
def F44:FnF Tryz.prog 44 Tryz.f44 28 [] [.cell 2 109]:=bV mx Tryz.func44 (by kernel_rfl) (by kernel_rfl)
def F45:FnF Tryz.prog 45 Tryz.f45 24 [] [.tmp 6]:=bV mx Tryz.func45 (by kernel_rfl) (by kernel_rfl)
def F46:FnF Tryz.prog 46 Tryz.f46 14 [] [.tmp 2]:=bV mx Tryz.func46 (by kernel_rfl) (by kernel_rfl)
def F47:FnF Tryz.prog 47 Tryz.f47 7 [] [.cell 2 58]:=bV mx Tryz.func47 (by kernel_rfl) (by kernel_rfl)
def F48:FnF Tryz.prog 48 Tryz.f48 150 [] [.tmp 2]:=bV mx Tryz.func48 (by kernel_rfl) (by kernel_rfl)
def F49:FnF Tryz.prog 49 Tryz.f49 36 [] [.tmp 4]:=bV mx Tryz.func49 (by kernel_rfl) (by kernel_rfl)
def F50:FnF Tryz.prog 50 Tryz.f50 53 [(7,.take 0<| .take 1<| .take 3<| .take 4<| .take 5<| .take 2<| .take 6<| .eff 7 true (.take 8<| .take 9<| .take 10<| .take 11<| .take 12<| .done)<| .no)] [.tmp 2]:=bV mx Tryz.func50 (by kernel_rfl) (by kernel_rfl)
def F51:FnF Tryz.prog 51 Tryz.f51 113 [(10,.take 0<| .take 2<| .take 3<| .take 1<| .take 4<| .take 5<| .take 6<| .take 7<| .eff 8 false (.eff 9 true (.done)<| .no)<| .no),(19,.take 0<| .take 2<| .take 3<| .take 1<| .take 4<| .take 6<| .eff 5 false (.eff 7 false (.take 8<| .eff 9 true (.done)<| .no)<| .no)<| .eff 7 false (.eff 5 false (.take 8<| .eff 9 true (.done)<| .no)<| .no)<| .no),(20,.take 0<| .take 2<| .eff 1 false (.eff 3 true (.take 4<| .take 5<| .take 6<| .take 7<| .eff 8 true (.done)<| .no)<| .no)<| .no),(22,.take 0<| .take 1<| .eff 2 false (.eff 3 false (.eff 4 true (.done)<| .no)<| .no)<| .no),(26,.take 1<| .take 2<| .take 3<| .take 5<| .take 0<| .take 4<| .take 6<| .eff 7 false (.eff 8 false (.eff 9 true (.done)<| .no)<| .no)<| .no),(28,.take 0<| .take 1<| .eff 2 false (.eff 3 true (.eff 4 true (.done)<| .no)<| .no)<| .no)] [.cell 4 120,.cell 5 51,.cell 6 33]:=bV mx Tryz.func51 (by kernel_rfl) (by kernel_rfl)
def F52:FnF Tryz.prog 52 Tryz.f52 26 [] [.tmp 6,.tmp 7]:=bV mx Tryz.func52 (by kernel_rfl) (by kernel_rfl)
def F53:FnF Tryz.prog 53 Tryz.f53 36 [] [.tmp 2]:=bV mx Tryz.func53 (by kernel_rfl) (by kernel_rfl)
def F54:FnF Tryz.prog 54 Tryz.f54 37 [(6,.take 1<| .take 2<| .take 0<| .take 3<| .take 4<| .eff 5 false (.take 6<| .take 7<| .done)<| .no)] [.cell 4 122,.tmp 5,.tmp 6]:=bV mx Tryz.func54 (by kernel_rfl) (by kernel_rfl)
def F55:FnF Tryz.prog 55 Tryz.f55 38 [(9,.take 0<| .take 1<| .take 2<| .take 3<| .take 4<| .take 6<| .take 7<| .take 8<| .take 5<| .take 9<| .take 10<| .take 11<| .done)] [.tmp 4]:=bV mx Tryz.func55 (by kernel_rfl) (by kernel_rfl)
def F56:FnF Tryz.prog 56 Tryz.f56 31 [] [.tmp 2,.tmp 3]:=bV mx Tryz.func56 (by kernel_rfl) (by kernel_rfl)
def F57:FnF Tryz.prog 57 Tryz.f57 61 [] [.tmp 6]:=bV mx Tryz.func57 (by kernel_rfl) (by kernel_rfl)
def F61:FnF Tryz.prog 61 Tryz.f61 47 [(10,.take 0<| .take 1<| .take 2<| .take 6<| .take 7<| .take 8<| .take 3<| .take 5<| .take 9<| .eff 4 false (.eff 10 false (.take 11<| .take 12<| .take 13<| .take 14<| .done)<| .no)<| .no)] [.tmp 4,.tmp 5]:=bV mx Tryz.func61 (by kernel_rfl) (by kernel_rfl)
def F62:FnF Tryz.prog 62 Tryz.f62 42 [(9,.take 0<| .take 1<| .take 2<| .take 4<| .take 5<| .take 6<| .take 3<| .take 7<| .eff 8 true (.take 9<| .done)<| .no)] [.tmp 4]:=bV mx Tryz.func62 (by kernel_rfl) (by kernel_rfl)
def F63:FnF Tryz.prog 63 Tryz.f63 19 [] [.tmp 2]:=bV mx Tryz.func63 (by kernel_rfl) (by kernel_rfl)
def F65:FnF Tryz.prog 65 Tryz.f65 13 [] [.tmp 2]:=bV mx Tryz.func65 (by kernel_rfl) (by kernel_rfl)
def F66:FnF Tryz.prog 66 Tryz.f66 20 [] [.tmp 4]:=bV mx Tryz.func66 (by kernel_rfl) (by kernel_rfl)
def F67:FnF Tryz.prog 67 Tryz.f67 9 [] [.tmp 2]:=bV mx Tryz.func67 (by kernel_rfl) (by kernel_rfl)
def F68:FnF Tryz.prog 68 Tryz.f68 9 [] [.tmp 2]:=bV mx Tryz.func68 (by kernel_rfl) (by kernel_rfl)
def F69:FnF Tryz.prog 69 Tryz.f69 17 [] [.tmp 4]:=bV mx Tryz.func69 (by kernel_rfl) (by kernel_rfl)
def F70:FnF Tryz.prog 70 Tryz.f70 8 [] [.tmp 2]:=bV mx Tryz.func70 (by kernel_rfl) (by kernel_rfl)
def F72:FnF Tryz.prog 72 Tryz.f72 8 [] [.tmp 4]:=bV mx Tryz.func72 (by kernel_rfl) (by kernel_rfl)
def F73:FnF Tryz.prog 73 Tryz.f73 42 [] [.tmp 4]:=bV mx Tryz.func73 (by kernel_rfl) (by kernel_rfl)
def F74:FnF Tryz.prog 74 Tryz.f74 49 [] [.tmp 2]:=bV mx Tryz.func74 (by kernel_rfl) (by kernel_rfl)
def F75:FnF Tryz.prog 75 Tryz.f75 77 [(13,.take 0<| .take 2<| .take 3<| .take 1<| .eff 4 false (.eff 5 false (.eff 6 true (.take 7<| .eff 8 true (.done)<| .no)<| .no)<| .no)<| .no)] [.cell 2 155]:=bV mx Tryz.func75 (by kernel_rfl) (by kernel_rfl)
def F76:FnF Tryz.prog 76 Tryz.f76 24 [] [.tmp 2]:=bV mx Tryz.func76 (by kernel_rfl) (by kernel_rfl)
def F77:FnF Tryz.prog 77 Tryz.f77 24 [] [.tmp 6]:=bV mx Tryz.func77 (by kernel_rfl) (by kernel_rfl)
def F78:FnF Tryz.prog 78 Tryz.f78 57 [] [.tmp 2]:=bV mx Tryz.func78 (by kernel_rfl) (by kernel_rfl)
def F79:FnF Tryz.prog 79 Tryz.f79 24 [] [.tmp 6]:=bV mx Tryz.func79 (by kernel_rfl) (by kernel_rfl)
def F80:FnF Tryz.prog 80 Tryz.f80 15 [] [.cell 1 27]:=bV mx Tryz.func80 (by kernel_rfl) (by kernel_rfl)
def F81:FnF Tryz.prog 81 Tryz.f81 76 [] [.cell 2 27,.tmp 3]:=bV mx Tryz.func81 (by kernel_rfl) (by kernel_rfl)
def F82:FnF Tryz.prog 82 Tryz.f82 19 [] [.tmp 2]:=bV mx Tryz.func82 (by kernel_rfl) (by kernel_rfl)
def F83:FnF Tryz.prog 83 Tryz.f83 88 [(20,.take 0<| .take 1<| .take 2<| .take 3<| .take 5<| .take 8<| .take 9<| .take 10<| .take 4<| .take 6<| .take 7<| .eff 11 false (.eff 12 false (.eff 13 true (.done)<| .no)<| .no)<| .no)] [.cell 4 58]:=bV mx Tryz.func83 (by kernel_rfl) (by kernel_rfl)
def F84:FnF Tryz.prog 84 Tryz.f84 127 [(1,.take 0<| .take 1<| .take 2<| .take 3<| .take 4<| .take 5<| .take 6<| .take 7<| .take 8<| .take 9<| .take 10<| .take 11<| .take 12<| .take 13<| .take 14<| .take 15<| .take 16<| .take 17<| .take 20<| .take 21<| .take 22<| .take 18<| .take 19<| .take 23<| .take 24<| .take 25<| .take 26<| .take 27<| .take 28<| .take 29<| .take 30<| .take 31<| .take 32<| .take 33<| .take 34<| .take 35<| .take 36<| .take 37<| .take 38<| .take 39<| .take 40<| .take 41<| .take 42<| .take 43<| .take 44<| .take 45<| .take 46<| .take 47<| .take 48<| .take 49<| .take 50<| .done)] [.tmp 2]:=bV mx Tryz.func84 (by kernel_rfl) (by kernel_rfl)
def F85:FnF Tryz.prog 85 Tryz.f85 15 [] [.tmp 2]:=bV mx Tryz.func85 (by kernel_rfl) (by kernel_rfl)
def F86:FnF Tryz.prog 86 Tryz.f86 33 [] [.tmp 2]:=bV mx Tryz.func86 (by kernel_rfl) (by kernel_rfl)
def F87:FnF Tryz.prog 87 Tryz.f87 6 [] [.tmp 2]:=bV mx Tryz.func87 (by kernel_rfl) (by kernel_rfl)
def F88:FnF Tryz.prog 88 Tryz.f88 11 [] [.tmp 4]:=bV mx Tryz.func88 (by kernel_rfl) (by kernel_rfl)
def F89:FnF Tryz.prog 89 Tryz.f89 18 [] [.tmp 2]:=bV mx Tryz.func89 (by kernel_rfl) (by kernel_rfl)
def F90:FnF Tryz.prog 90 Tryz.f90 15 [(7,.take 0<| .take 1<| .take 2<| .eff 3 false (.eff 4 false (.eff 5 true (.done)<| .no)<| .no)<| .no)] []:=bV mx Tryz.func90 (by kernel_rfl) (by kernel_rfl)
def F91:FnF Tryz.prog 91 Tryz.f91 209 [(3,.take 0<| .take 1<| .take 2<| .take 3<| .take 5<| .eff 4 false (.eff 6 true (.eff 7 true (.done)<| .no)<| .no)<| .no),(29,.take 0<| .take 2<| .take 3<| .take 4<| .take 5<| .take 7<| .take 1<| .take 6<| .take 8<| .take 9<| .eff 10 false (.eff 11 false (.eff 12 false (.take 13<| .eff 14 true (.done)<| .no)<| .no)<| .no)<| .no)] [.cell 4 120,.tmp 5]:=bV mx Tryz.func91 (by kernel_rfl) (by kernel_rfl)
def F92:FnF Tryz.prog 92 Tryz.f92 33 [(7,.take 0<| .take 2<| .eff 1 false (.eff 3 true (.eff 4 true (.eff 5 true (.done)<| .no)<| .no)<| .no)<| .no)] [.cell 6 120]:=bV mx Tryz.func92 (by kernel_rfl) (by kernel_rfl)
def F93:FnF Tryz.prog 93 Tryz.f93 22 [] [.tmp 4]:=bV mx Tryz.func93 (by kernel_rfl) (by kernel_rfl)
def F94:FnF Tryz.prog 94 Tryz.f94 50 [] [.tmp 4,.tmp 5]:=bV mx Tryz.func94 (by kernel_rfl) (by kernel_rfl)
def F95:FnF Tryz.prog 95 Tryz.f95 31 [] [.tmp 6,.tmp 7]:=bV mx Tryz.func95 (by kernel_rfl) (by kernel_rfl)
def F96:FnF Tryz.prog 96 Tryz.f96 21 [] [.tmp 2]:=bV mx Tryz.func96 (by kernel_rfl) (by kernel_rfl)
def F97:FnF Tryz.prog 97 Tryz.f97 9 [] [.tmp 2]:=bV mx Tryz.func97 (by kernel_rfl) (by kernel_rfl)
def F98:FnF Tryz.prog 98 Tryz.f98 9 [] [.tmp 2,.tmp 3]:=bV mx Tryz.func98 (by kernel_rfl) (by kernel_rfl)
def F99:FnF Tryz.prog 99 Tryz.f99 21 [] [.tmp 4,.tmp 5]:=bV mx Tryz.func99 (by kernel_rfl) (by kernel_rfl)
def ahX:FnF Tryz.prog 100 Tryz.f100 56 [(1,.take 0<| .take 1<| .take 2<| .take 4<| .take 5<| .take 6<| .take 8<| .take 9<| .take 10<| .take 12<| .take 3<| .take 7<| .take 11<| .eff 13 true (.take 14<| .take 15<| .take 16<| .take 17<| .take 18<| .done)<| .no)] [.tmp 4]:=bV mx Tryz.func100 (by kernel_rfl) (by kernel_rfl)
def V1:FnF Tryz.prog 102 Tryz.f102 76 [(13,.take 4<| .take 0<| .take 1<| .take 2<| .take 3<| .take 5<| .take 6<| .take 7<| .take 8<| .eff 9 false (.take 10<| .eff 11 true (.done)<| .no)<| .no)] [.cell 4 116]:=bV mx Tryz.func102 (by kernel_rfl) (by kernel_rfl)
def ahY:FnF Tryz.prog 105 Tryz.f105 31 [] [.tmp 4]:=bV mx Tryz.func105 (by kernel_rfl) (by kernel_rfl)
def ahZ:FnF Tryz.prog 106 Tryz.f106 6 [] [.tmp 2]:=bV mx Tryz.func106 (by kernel_rfl) (by kernel_rfl)
def aah:FnF Tryz.prog 107 Tryz.f107 115 [(6,.take 0<| .take 1<| .take 2<| .take 3<| .take 4<| .take 5<| .take 6<| .done),(8,.take 0<| .take 1<| .take 2<| .take 3<| .take 4<| .take 5<| .take 6<| .eff 7 false (.eff 8 true (.done)<| .no)<| .no),(18,.take 8<| .take 10<| .take 1<| .take 2<| .take 3<| .take 4<| .take 5<| .eff 0 false (.take 6<| .take 7<| .eff 9 false (.eff 11 false (.eff 12 false (.eff 13 true (.done)<| .no)<| .no)<| .no)<| .no)<| .eff 9 false (.eff 0 false (.take 6<| .take 7<| .eff 11 false (.eff 12 false (.eff 13 true (.done)<| .no)<| .no)<| .no)<| .eff 11 false (.eff 0 false (.take 6<| .take 7<| .eff 12 false (.eff 13 true (.done)<| .no)<| .no)<| .no)<| .no)<| .no),(32,.take 4<| .take 6<| .take 0<| .take 1<| .take 2<| .take 3<| .eff 5 false (.eff 7 false (.eff 8 false (.eff 9 true (.done)<| .no)<| .no)<| .no)<| .no)] [.cell 4 27]:=bV mx Tryz.func107 (by kernel_rfl) (by kernel_rfl)
def ah0:FnF Tryz.prog 108 Tryz.f108 39 [] [.tmp 4,.tmp 5]:=bV mx Tryz.func108 (by kernel_rfl) (by kernel_rfl)
def aai:FnF Tryz.prog 110 Tryz.f110 69 [(2,.take 0<| .take 1<| .take 2<| .take 4<| .take 5<| .take 6<| .take 3<| .take 7<| .take 8<| .take 9<| .take 10<| .take 11<| .take 12<| .take 14<| .take 15<| .take 16<| .take 13<| .take 17<| .take 18<| .take 19<| .take 20<| .take 21<| .take 22<| .take 23<| .take 24<| .take 25<| .take 26<| .eff 27 false (.take 28<| .take 29<| .take 30<| .take 31<| .take 32<| .take 33<| .take 35<| .take 36<| .take 37<| .take 34<| .take 38<| .eff 39 false (.take 40<| .take 41<| .take 42<| .take 43<| .take 44<| .take 46<| .take 47<| .take 48<| .take 45<| .take 49<| .eff 50 false (.take 51<| .take 52<| .take 53<| .take 54<| .take 55<| .take 57<| .take 58<| .take 59<| .take 56<| .take 60<| .eff 61 false (.take 62<| .take 63<| .done)<| .no)<| .no)<| .no)<| .no)] [.tmp 4]:=bV mx Tryz.func110 (by kernel_rfl) (by kernel_rfl)
def C9:FnF Tryz.prog 112 Tryz.f112 63 [] [.tmp 4]:=bV mx Tryz.func112 (by kernel_rfl) (by kernel_rfl)
def ah1:FnF Tryz.prog 113 Tryz.f113 25 [] [.cell 2 27]:=bV mx Tryz.func113 (by kernel_rfl) (by kernel_rfl)
def ah2:FnF Tryz.prog 116 Tryz.f116 18 [] [.tmp 4]:=bV mx Tryz.func116 (by kernel_rfl) (by kernel_rfl)
def adY:FnF Tryz.prog 117 Tryz.f117 9 [] [.tmp 4]:=bV mx Tryz.func117 (by kernel_rfl) (by kernel_rfl)
def ah3:FnF Tryz.prog 118 Tryz.f118 2 [] [.tmp 0]:=bV mx Tryz.func118 (by kernel_rfl) (by kernel_rfl)
def ah4:FnF Tryz.prog 119 Tryz.f119 24 [] [.tmp 6]:=bV mx Tryz.func119 (by kernel_rfl) (by kernel_rfl)
def ah5:FnF Tryz.prog 120 Tryz.f120 13 [] [.cell 2 215]:=bV mx Tryz.func120 (by kernel_rfl) (by kernel_rfl)
def ah6:FnF Tryz.prog 121 Tryz.f121 24 [] [.cell 4 218]:=bV mx Tryz.func121 (by kernel_rfl) (by kernel_rfl)
def adZ:FnF Tryz.prog 122 Tryz.f122 23 [] [.tmp 2]:=bV mx Tryz.func122 (by kernel_rfl) (by kernel_rfl)
def ah7:FnF Tryz.prog 123 Tryz.f123 25 [] [.tmp 6,.tmp 7]:=bV mx Tryz.func123 (by kernel_rfl) (by kernel_rfl)
def ah8:FnF Tryz.prog 124 Tryz.f124 8 [] []:=bV mx Tryz.func124 (by kernel_rfl) (by kernel_rfl)
def ah9:FnF Tryz.prog 125 Tryz.f125 15 [] [.tmp 0]:=bV mx Tryz.func125 (by kernel_rfl) (by kernel_rfl)
def aia:FnF Tryz.prog 126 Tryz.f126 136 [(12,.take 0<| .take 2<| .take 1<| .eff 3 false (.eff 4 false (.eff 5 true (.take 6<| .eff 7 true (.done)<| .no)<| .no)<| .no)<| .no),(14,.take 0<| .take 2<| .take 1<| .eff 3 false (.eff 4 false (.eff 5 true (.take 6<| .eff 7 true (.done)<| .no)<| .no)<| .no)<| .no)] [.cell 2 58]:=bV mx Tryz.func126 (by kernel_rfl) (by kernel_rfl)
def aib:FnF Tryz.prog 127 Tryz.f127 9 [] [.cell 4 58]:=bV mx Tryz.func127 (by kernel_rfl) (by kernel_rfl)
def aic:FnF Tryz.prog 128 Tryz.f128 19 [] [.tmp 4]:=bV mx Tryz.func128 (by kernel_rfl) (by kernel_rfl)
def aid:FnF Tryz.prog 129 Tryz.f129 12 [] [.cell 6 58]:=bV mx Tryz.func129 (by kernel_rfl) (by kernel_rfl)
def aie:FnF Tryz.prog 130 Tryz.f130 132 [] [.tmp 2]:=bV mx Tryz.func130 (by kernel_rfl) (by kernel_rfl)
def ad0:FnF Tryz.prog 131 Tryz.f131 104 [] [.tmp 6]:=bV mx Tryz.func131 (by kernel_rfl) (by kernel_rfl)
def ad1:FnF Tryz.prog 132 Tryz.f132 19 [] [.tmp 4]:=bV mx Tryz.func132 (by kernel_rfl) (by kernel_rfl)
def aif:FnF Tryz.prog 133 Tryz.f133 8 [] [.tmp 3]:=bV mx Tryz.func133 (by kernel_rfl) (by kernel_rfl)
def ad2:FnF Tryz.prog 134 Tryz.f134 9 [] [.tmp 4]:=bV mx Tryz.func134 (by kernel_rfl) (by kernel_rfl)
def aig:FnF Tryz.prog 135 Tryz.f135 9 [] [.tmp 3]:=bV mx Tryz.func135 (by kernel_rfl) (by kernel_rfl)
def aaj:FnF Tryz.prog 136 Tryz.f136 113 [(19,.take 0<| .take 1<| .take 2<| .take 3<| .take 5<| .take 6<| .take 4<| .take 7<| .take 8<| .eff 9 false (.eff 10 false (.take 11<| .take 12<| .eff 13 true (.done)<| .no)<| .no)<| .no),(24,.take 0<| .take 1<| .take 2<| .take 3<| .take 4<| .take 6<| .take 7<| .eff 5 false (.eff 8 true (.take 9<| .eff 10 true (.done)<| .no)<| .no)<| .eff 8 false (.eff 5 false (.take 9<| .eff 10 true (.done)<| .no)<| .no)<| .no)] [.cell 4 120,.tmp 5]:=bV mx Tryz.func136 (by kernel_rfl) (by kernel_rfl)
def ad3:FnF Tryz.prog 137 Tryz.f137 9 [] [.cell 4 120]:=bV mx Tryz.func137 (by kernel_rfl) (by kernel_rfl)
def aih:FnF Tryz.prog 138 Tryz.f138 9 [] [.tmp 4]:=bV mx Tryz.func138 (by kernel_rfl) (by kernel_rfl)
def aii:FnF Tryz.prog 139 Tryz.f139 5 [] [.tmp 2]:=bV mx Tryz.func139 (by kernel_rfl) (by kernel_rfl)
def aak:FnF Tryz.prog 140 Tryz.f140 15 [] [.tmp 2]:=bV mx Tryz.func140 (by kernel_rfl) (by kernel_rfl)
def aij:FnF Tryz.prog 141 Tryz.f141 5 [] []:=bV mx Tryz.func141 (by kernel_rfl) (by kernel_rfl)
def aik:FnF Tryz.prog 142 Tryz.f142 23 [] [.tmp 4]:=bV mx Tryz.func142 (by kernel_rfl) (by kernel_rfl)
def ad4:FnF Tryz.prog 143 Tryz.f143 6 [] [.cell 2 120]:=bV mx Tryz.func143 (by kernel_rfl) (by kernel_rfl)
def ail:FnF Tryz.prog 144 Tryz.f144 200 [(20,.take 0<| .take 1<| .take 2<| .take 3<| .take 4<| .take 5<| .take 6<| .take 7<| .take 8<| .take 10<| .take 11<| .take 12<| .take 9<| .take 13<| .take 14<| .take 15<| .take 16<| .done),(22,.take 0<| .take 1<| .take 2<| .take 4<| .take 5<| .take 6<| .take 3<| .take 7<| .take 8<| .take 9<| .take 10<| .take 11<| .done),(24,.take 0<| .take 1<| .take 3<| .take 4<| .take 6<| .take 7<| .take 8<| .take 2<| .take 5<| .take 9<| .eff 10 false (.take 11<| .take 12<| .done)<| .no),(26,.take 0<| .take 1<| .take 3<| .take 4<| .take 5<| .take 2<| .take 6<| .eff 7 true (.take 8<| .take 9<| .take 10<| .take 11<| .done)<| .no),(29,.take 0<| .take 1<| .take 3<| .take 4<| .take 2<| .take 5<| .eff 6 true (.take 7<| .take 8<| .take 9<| .take 10<| .done)<| .no),(36,.take 0<| .take 1<| .take 3<| .take 4<| .take 2<| .take 5<| .eff 6 false (.eff 7 false (.take 8<| .done)<| .no)<| .no),(40,.take 0<| .take 1<| .take 3<| .take 4<| .take 5<| .take 6<| .take 2<| .take 7<| .eff 8 false (.take 9<| .take 10<| .done)<| .no)] [.tmp 6,.tmp 7]:=bV mx Tryz.func144 (by kernel_rfl) (by kernel_rfl)
def aim:FnF Tryz.prog 145 Tryz.f145 8 [] [.tmp 2]:=bV mx Tryz.func145 (by kernel_rfl) (by kernel_rfl)
def ain:FnF Tryz.prog 146 Tryz.f146 30 [] [.tmp 4]:=bV mx Tryz.func146 (by kernel_rfl) (by kernel_rfl)
def ad5:FnF Tryz.prog 147 Tryz.f147 80 [] [.tmp 6,.tmp 7]:=bV mx Tryz.func147 (by kernel_rfl) (by kernel_rfl)
def aio:FnF Tryz.prog 148 Tryz.f148 10 [] [.tmp 2,.tmp 3]:=bV mx Tryz.func148 (by kernel_rfl) (by kernel_rfl)
def ad6:FnF Tryz.prog 149 Tryz.f149 75 [(5,.take 0<| .take 1<| .take 2<| .take 5<| .take 3<| .take 6<| .eff 4 false (.take 7<| .take 8<| .eff 9 true (.done)<| .no)<| .no),(13,.take 0<| .take 1<| .take 2<| .take 3<| .take 4<| .take 5<| .take 6<| .take 7<| .take 8<| .take 10<| .take 9<| .take 11<| .eff 12 true (.take 13<| .take 14<| .done)<| .no),(15,.take 0<| .take 2<| .take 3<| .take 4<| .take 5<| .take 1<| .take 6<| .take 7<| .take 8<| .eff 9 true (.done)<| .no)] [.tmp 2]:=bV mx Tryz.func149 (by kernel_rfl) (by kernel_rfl)
def aal:FnF Tryz.prog 150 Tryz.f150 18 [] [.tmp 2]:=bV mx Tryz.func150 (by kernel_rfl) (by kernel_rfl)
def ad7:FnF Tryz.prog 151 Tryz.f151 36 [] [.tmp 2]:=bV mx Tryz.func151 (by kernel_rfl) (by kernel_rfl)
def aip:FnF Tryz.prog 152 Tryz.f152 70 [] [.tmp 8,.tmp 9]:=bV mx Tryz.func152 (by kernel_rfl) (by kernel_rfl)
def aiq:FnF Tryz.prog 153 Tryz.f153 41 [] [.tmp 4,.tmp 5]:=bV mx Tryz.func153 (by kernel_rfl) (by kernel_rfl)
def ad8:FnF Tryz.prog 154 Tryz.f154 19 [] [.tmp 4]:=bV mx Tryz.func154 (by kernel_rfl) (by kernel_rfl)
def ad9:FnF Tryz.prog 155 Tryz.f155 6 [] [.tmp 3]:=bV mx Tryz.func155 (by kernel_rfl) (by kernel_rfl)
def aam:FnF Tryz.prog 156 Tryz.f156 62 [(1,.take 0<| .take 1<| .take 2<| .take 4<| .take 5<| .take 6<| .take 3<| .take 7<| .take 8<| .done),(5,.take 0<| .take 1<| .take 2<| .take 5<| .take 6<| .take 7<| .take 3<| .take 8<| .eff 4 false (.eff 9 false (.take 10<| .take 11<| .done)<| .no)<| .no),(7,.take 0<| .take 1<| .take 2<| .take 4<| .take 5<| .take 6<| .take 3<| .take 7<| .take 8<| .take 9<| .take 10<| .take 11<| .take 12<| .take 14<| .take 15<| .take 16<| .take 13<| .take 17<| .take 18<| .take 19<| .take 20<| .done),(8,.take 0<| .take 1<| .take 2<| .take 4<| .take 5<| .take 6<| .take 3<| .take 7<| .eff 8 true (.take 9<| .done)<| .no)] [.tmp 4]:=bV mx Tryz.func156 (by kernel_rfl) (by kernel_rfl)
def aea:FnF Tryz.prog 157 Tryz.f157 65 [(5,.take 0<| .take 1<| .take 2<| .take 4<| .take 5<| .take 6<| .take 3<| .take 7<| .take 8<| .eff 9 false (.take 10<| .eff 11 true (.done)<| .no)<| .no),(6,.take 0<| .take 1<| .take 2<| .take 4<| .take 5<| .take 6<| .take 3<| .take 7<| .take 8<| .take 9<| .take 10<| .eff 11 false (.eff 12 false (.take 13<| .eff 14 true (.done)<| .no)<| .no)<| .no),(7,.take 0<| .take 1<| .take 2<| .take 5<| .take 6<| .take 7<| .take 3<| .take 4<| .take 8<| .take 9<| .take 10<| .take 11<| .take 12<| .take 13<| .take 14<| .eff 15 true (.done)<| .no)] [.cell 4 116]:=bV mx Tryz.func157 (by kernel_rfl) (by kernel_rfl)
def air:FnF Tryz.prog 158 Tryz.f158 50 [(5,.take 0<| .take 2<| .take 3<| .take 4<| .take 1<| .take 5<| .take 6<| .take 7<| .take 8<| .take 9<| .take 10<| .take 11<| .take 12<| .take 13<| .take 14<| .take 16<| .take 17<| .take 18<| .take 15<| .take 19<| .take 20<| .take 21<| .take 22<| .done)] [.tmp 4]:=bV mx Tryz.func158 (by kernel_rfl) (by kernel_rfl)
def ais:FnF Tryz.prog 159 Tryz.f159 37 [] [.tmp 4,.tmp 5]:=bV mx Tryz.func159 (by kernel_rfl) (by kernel_rfl)
def ait:FnF Tryz.prog 160 Tryz.f160 48 [(11,.take 0<| .take 1<| .take 2<| .take 3<| .take 4<| .take 5<| .take 6<| .take 7<| .take 9<| .take 8<| .take 10<| .eff 11 true (.take 12<| .take 13<| .take 14<| .done)<| .no)] [.tmp 2]:=bV mx Tryz.func160 (by kernel_rfl) (by kernel_rfl)
def aiu:FnF Tryz.prog 161 Tryz.f161 9 [] [.tmp 2]:=bV mx Tryz.func161 (by kernel_rfl) (by kernel_rfl)
def nl:FnF Tryz.prog 162 Tryz.f162 13 [(1,.take 4<| .take 0<| .take 1<| .take 2<| .take 3<| .take 5<| .take 6<| .eff 7 false (.eff 8 true (.done)<| .no)<| .no)] [.cell 4 27]:=bV mx Tryz.func162 (by kernel_rfl) (by kernel_rfl)
def aiv:FnF Tryz.prog 163 Tryz.f163 18 [] [.cell 2 27]:=bV mx Tryz.func163 (by kernel_rfl) (by kernel_rfl)
def aiw:FnF Tryz.prog 164 Tryz.f164 2 [] [.cell 0 27]:=bV mx Tryz.func164 (by kernel_rfl) (by kernel_rfl)
def aix:FnF Tryz.prog 165 Tryz.f165 7 [] [.cell 2 27]:=bV mx Tryz.func165 (by kernel_rfl) (by kernel_rfl)
def aiy:FnF Tryz.prog 166 Tryz.f166 11 [(1,.take 0<| .take 2<| .eff 1 false (.eff 3 false (.eff 4 false (.eff 5 false (.eff 6 true (.done)<| .no)<| .no)<| .no)<| .no)<| .no)] [.cell 4 27]:=bV mx Tryz.func166 (by kernel_rfl) (by kernel_rfl)
def aiz:FnF Tryz.prog 167 Tryz.f167 11 [(1,.take 0<| .take 2<| .eff 1 false (.eff 3 false (.eff 4 false (.eff 5 false (.eff 6 true (.done)<| .no)<| .no)<| .no)<| .no)<| .no)] [.cell 4 27]:=bV mx Tryz.func167 (by kernel_rfl) (by kernel_rfl)
def aiA:FnF Tryz.prog 168 Tryz.f168 61 [(3,.take 0<| .take 2<| .take 1<| .take 4<| .take 3<| .take 5<| .done)] [.cell 6 27]:=bV mx Tryz.func168 (by kernel_rfl) (by kernel_rfl)
def aiB:FnF Tryz.prog 169 Tryz.f169 30 [] [.cell 4 27]:=bV mx Tryz.func169 (by kernel_rfl) (by kernel_rfl)
def aiC:FnF Tryz.prog 170 Tryz.f170 8 [] [.cell 2 27]:=bV mx Tryz.func170 (by kernel_rfl) (by kernel_rfl)
def aiD:FnF Tryz.prog 171 Tryz.f171 39 [] [.cell 6 27]:=bV mx Tryz.func171 (by kernel_rfl) (by kernel_rfl)
def aiE:FnF Tryz.prog 172 Tryz.f172 23 [] [.tmp 2]:=bV mx Tryz.func172 (by kernel_rfl) (by kernel_rfl)
def aiF:FnF Tryz.prog 173 Tryz.f173 8 [] [.tmp 4]:=bV mx Tryz.func173 (by kernel_rfl) (by kernel_rfl)
def aiG:FnF Tryz.prog 174 Tryz.f174 32 [] [.tmp 6]:=bV mx Tryz.func174 (by kernel_rfl) (by kernel_rfl)
def aeb:FnF Tryz.prog 175 Tryz.f175 6 [] [.tmp 4]:=bV mx Tryz.func175 (by kernel_rfl) (by kernel_rfl)
def V2:FnF Tryz.prog 176 Tryz.f176 47 [(1,.take 0<| .take 1<| .take 2<| .take 4<| .take 5<| .take 6<| .take 3<| .take 7<| .take 8<| .take 9<| .take 10<| .take 11<| .take 12<| .take 14<| .take 15<| .take 16<| .take 13<| .take 17<| .take 18<| .take 19<| .take 20<| .take 21<| .take 22<| .take 23<| .take 25<| .take 26<| .take 27<| .take 24<| .take 28<| .take 29<| .take 30<| .take 31<| .take 32<| .take 33<| .take 34<| .take 36<| .take 37<| .take 38<| .take 35<| .take 39<| .eff 40 false (.take 41<| .take 42<| .done)<| .no)] [.tmp 4]:=bV mx Tryz.func176 (by kernel_rfl) (by kernel_rfl)
def aiH:FnF Tryz.prog 177 Tryz.f177 32 [] [.tmp 6]:=bV mx Tryz.func177 (by kernel_rfl) (by kernel_rfl)
def aec:FnF Tryz.prog 178 Tryz.f178 15 [] [.tmp 4]:=bV mx Tryz.func178 (by kernel_rfl) (by kernel_rfl)
def aiI:FnF Tryz.prog 179 Tryz.f179 32 [] [.tmp 6]:=bV mx Tryz.func179 (by kernel_rfl) (by kernel_rfl)
def aed:FnF Tryz.prog 180 Tryz.f180 6 [] [.tmp 4]:=bV mx Tryz.func180 (by kernel_rfl) (by kernel_rfl)
def aiJ:FnF Tryz.prog 182 Tryz.f182 19 [] [.tmp 4]:=bV mx Tryz.func182 (by kernel_rfl) (by kernel_rfl)
def aiK:FnF Tryz.prog 183 Tryz.f183 106 [] [.tmp 2]:=bV mx Tryz.func183 (by kernel_rfl) (by kernel_rfl)
def aan:FnF Tryz.prog 186 Tryz.f186 18 [] [.tmp 2]:=bV mx Tryz.func186 (by kernel_rfl) (by kernel_rfl)
def aiL:FnF Tryz.prog 187 Tryz.f187 12 [(1,.take 0<| .take 1<| .take 2<| .take 3<| .take 4<| .take 5<| .take 6<| .take 7<| .eff 8 false (.take 9<| .done)<| .no)] [.tmp 2]:=bV mx Tryz.func187 (by kernel_rfl) (by kernel_rfl)
def aiM:FnF Tryz.prog 188 Tryz.f188 12 [(1,.take 0<| .take 1<| .take 2<| .take 3<| .take 4<| .take 5<| .take 6<| .take 7<| .eff 8 false (.take 9<| .done)<| .no)] [.tmp 2]:=bV mx Tryz.func188 (by kernel_rfl) (by kernel_rfl)
def aiN:FnF Tryz.prog 189 Tryz.f189 8 [] [.tmp 2]:=bV mx Tryz.func189 (by kernel_rfl) (by kernel_rfl)
def aiO:FnF Tryz.prog 190 Tryz.f190 44 [] [.tmp 4]:=bV mx Tryz.func190 (by kernel_rfl) (by kernel_rfl)
def aiP:FnF Tryz.prog 191 Tryz.f191 43 [] [.tmp 2]:=bV mx Tryz.func191 (by kernel_rfl) (by kernel_rfl)
def aiQ:FnF Tryz.prog 192 Tryz.f192 19 [] [.tmp 4]:=bV mx Tryz.func192 (by kernel_rfl) (by kernel_rfl)
def aiR:FnF Tryz.prog 193 Tryz.f193 49 [(6,.take 0<| .take 2<| .take 1<| .take 3<| .eff 4 false (.take 5<| .done)<| .no),(8,.take 0<| .take 1<| .take 2<| .take 3<| .eff 4 false (.take 5<| .done)<| .no)] [.cell 4 120,.tmp 5]:=bV mx Tryz.func193 (by kernel_rfl) (by kernel_rfl)
def aiS:FnF Tryz.prog 194 Tryz.f194 8 [] [.tmp 2]:=bV mx Tryz.func194 (by kernel_rfl) (by kernel_rfl)
def aiT:FnF Tryz.prog 195 Tryz.f195 19 [] [.tmp 4]:=bV mx Tryz.func195 (by kernel_rfl) (by kernel_rfl)
def aiU:FnF Tryz.prog 196 Tryz.f196 9 [] [.tmp 4]:=bV mx Tryz.func196 (by kernel_rfl) (by kernel_rfl)
def aee:FnF Tryz.prog 197 Tryz.f197 4 [] [.tmp 2]:=bV mx Tryz.func197 (by kernel_rfl) (by kernel_rfl)
def aiV:FnF Tryz.prog 199 Tryz.f199 20 [] [.tmp 2]:=bV mx Tryz.func199 (by kernel_rfl) (by kernel_rfl)
def aiW:FnF Tryz.prog 200 Tryz.f200 24 [] [.tmp 4]:=bV mx Tryz.func200 (by kernel_rfl) (by kernel_rfl)
def aiX:FnF Tryz.prog 201 Tryz.f201 35 [] [.tmp 4,.tmp 5]:=bV mx Tryz.func201 (by kernel_rfl) (by kernel_rfl)
def aiY:FnF Tryz.prog 202 Tryz.f202 51 [] [.tmp 4,.tmp 5]:=bV mx Tryz.func202 (by kernel_rfl) (by kernel_rfl)
def aiZ:FnF Tryz.prog 203 Tryz.f203 72 [(1,.take 0<| .take 1<| .take 2<| .take 3<| .take 4<| .take 5<| .take 6<| .take 7<| .take 8<| .take 11<| .take 12<| .take 13<| .take 9<| .take 10<| .take 14<| .take 15<| .take 16<| .take 17<| .take 18<| .done)] [.tmp 4,.tmp 5]:=bV mx Tryz.func203 (by kernel_rfl) (by kernel_rfl)
def V3:FnF Tryz.prog 204 Tryz.f204 36 [] [.tmp 2]:=bV mx Tryz.func204 (by kernel_rfl) (by kernel_rfl)
def P7:FnF Tryz.prog 205 Tryz.f205 200 [(3,.take 0<| .take 1<| .take 3<| .take 4<| .take 5<| .take 7<| .take 8<| .take 2<| .take 6<| .take 9<| .eff 10 true (.take 11<| .take 12<| .take 13<| .take 14<| .done)<| .no),(5,.take 0<| .take 1<| .take 3<| .take 4<| .take 5<| .take 7<| .take 8<| .take 2<| .take 6<| .take 9<| .eff 10 true (.take 11<| .take 12<| .take 13<| .take 14<| .done)<| .no),(7,.take 0<| .take 1<| .take 3<| .take 4<| .take 6<| .take 7<| .take 8<| .take 10<| .take 11<| .take 13<| .take 14<| .take 2<| .take 5<| .take 9<| .take 12<| .take 15<| .eff 16 true (.take 17<| .take 18<| .take 19<| .take 20<| .done)<| .no),(9,.take 0<| .take 1<| .take 3<| .take 4<| .take 6<| .take 7<| .take 8<| .take 10<| .take 11<| .take 13<| .take 14<| .take 2<| .take 5<| .take 9<| .take 12<| .take 15<| .eff 16 true (.take 17<| .take 18<| .take 19<| .take 20<| .done)<| .no),(11,.take 0<| .take 1<| .take 3<| .take 4<| .take 6<| .take 7<| .take 8<| .take 10<| .take 11<| .take 13<| .take 14<| .take 2<| .take 5<| .take 9<| .take 12<| .take 15<| .eff 16 true (.take 17<| .take 18<| .take 19<| .take 20<| .done)<| .no),(13,.take 0<| .take 1<| .take 3<| .take 4<| .take 6<| .take 7<| .take 8<| .take 10<| .take 11<| .take 13<| .take 14<| .take 2<| .take 5<| .take 9<| .take 12<| .take 15<| .eff 16 true (.take 17<| .take 18<| .take 19<| .take 20<| .done)<| .no),(15,.take 0<| .take 1<| .take 3<| .take 4<| .take 2<| .take 5<| .eff 6 true (.take 7<| .take 8<| .take 9<| .take 10<| .done)<| .no),(17,.take 0<| .take 1<| .take 3<| .take 4<| .take 2<| .take 5<| .eff 6 true (.take 7<| .take 8<| .take 9<| .take 10<| .done)<| .no),(23,.take 0<| .take 1<| .take 3<| .take 4<| .take 5<| .take 7<| .take 8<| .take 9<| .take 11<| .take 12<| .take 2<| .take 6<| .take 10<| .take 13<| .eff 14 true (.take 15<| .take 16<| .take 17<| .take 18<| .done)<| .no),(24,.take 0<| .take 1<| .take 3<| .take 4<| .take 5<| .take 7<| .take 8<| .take 9<| .take 11<| .take 12<| .take 2<| .take 6<| .take 10<| .take 13<| .eff 14 true (.take 15<| .take 16<| .take 17<| .take 18<| .done)<| .no)] [.tmp 6,.tmp 7]:=bV mx Tryz.func205 (by kernel_rfl) (by kernel_rfl)
def ai0:FnF Tryz.prog 206 Tryz.f206 9 [] [.tmp 4]:=bV mx Tryz.func206 (by kernel_rfl) (by kernel_rfl)
def ai1:FnF Tryz.prog 207 Tryz.f207 7 [] [.tmp 2]:=bV mx Tryz.func207 (by kernel_rfl) (by kernel_rfl)
def V4:FnF Tryz.prog 208 Tryz.f208 9 [] []:=bV mx Tryz.func208 (by kernel_rfl) (by kernel_rfl)
def aef:FnF Tryz.prog 209 Tryz.f209 10 [] [.tmp 4]:=bV mx Tryz.func209 (by kernel_rfl) (by kernel_rfl)
def ai2:FnF Tryz.prog 210 Tryz.f210 34 [(6,.take 1<| .take 2<| .take 3<| .take 0<| .take 4<| .eff 5 true (.take 6<| .done)<| .no)] [.tmp 4]:=bV mx Tryz.func210 (by kernel_rfl) (by kernel_rfl)
def ai3:FnF Tryz.prog 211 Tryz.f211 27 [] [.tmp 4]:=bV mx Tryz.func211 (by kernel_rfl) (by kernel_rfl)
def aao:FnF Tryz.prog 212 Tryz.f212 109 [(2,.take 0<| .take 1<| .take 2<| .take 4<| .take 5<| .take 6<| .take 10<| .take 11<| .take 12<| .take 14<| .take 15<| .take 16<| .take 3<| .take 7<| .take 8<| .take 9<| .take 20<| .take 13<| .take 17<| .take 18<| .take 19<| .take 21<| .take 22<| .done),(11,.take 0<| .take 1<| .take 2<| .take 4<| .take 5<| .take 6<| .take 8<| .take 3<| .take 7<| .take 9<| .take 10<| .eff 11 false (.take 12<| .take 13<| .take 14<| .take 15<| .take 16<| .done)<| .no)] [.tmp 4,.tmp 5,.tmp 6]:=bV mx Tryz.func212 (by kernel_rfl) (by kernel_rfl)
def ai4:FnF Tryz.prog 213 Tryz.f213 32 [] [.tmp 6]:=bV mx Tryz.func213 (by kernel_rfl) (by kernel_rfl)
def ai5:FnF Tryz.prog 214 Tryz.f214 6 [] [.tmp 4]:=bV mx Tryz.func214 (by kernel_rfl) (by kernel_rfl)
def ai6:FnF Tryz.prog 215 Tryz.f215 137 [(19,.take 0<| .take 1<| .take 2<| .take 3<| .take 5<| .take 6<| .take 7<| .take 4<| .take 8<| .eff 9 false (.take 10<| .take 11<| .done)<| .no),(21,.take 0<| .take 1<| .take 2<| .take 3<| .take 4<| .take 5<| .take 6<| .take 7<| .take 8<| .take 10<| .take 11<| .take 12<| .take 9<| .take 13<| .take 14<| .take 15<| .take 16<| .done),(23,.take 0<| .take 1<| .take 2<| .take 4<| .take 5<| .take 6<| .take 3<| .take 7<| .take 8<| .take 9<| .take 10<| .take 11<| .done)] [.tmp 6,.tmp 7]:=bV mx Tryz.func215 (by kernel_rfl) (by kernel_rfl)
def ai7:FnF Tryz.prog 216 Tryz.f216 9 [] [.cell 2 27]:=bV mx Tryz.func216 (by kernel_rfl) (by kernel_rfl)
def ai8:FnF Tryz.prog 217 Tryz.f217 12 [] [.cell 2 27]:=bV mx Tryz.func217 (by kernel_rfl) (by kernel_rfl)
def ai9:FnF Tryz.prog 218 Tryz.f218 15 [] [.cell 4 27]:=bV mx Tryz.func218 (by kernel_rfl) (by kernel_rfl)
def aja:FnF Tryz.prog 219 Tryz.f219 15 [] [.cell 4 27]:=bV mx Tryz.func219 (by kernel_rfl) (by kernel_rfl)
def aeg:FnF Tryz.prog 220 Tryz.f220 6 [] [.tmp 4]:=bV mx Tryz.func220 (by kernel_rfl) (by kernel_rfl)
def ajb:FnF Tryz.prog 228 Tryz.f228 8 [] [.tmp 1]:=bV mx Tryz.func228 (by kernel_rfl) (by kernel_rfl)
def ajc:FnF Tryz.prog 229 Tryz.f229 7 [] [.tmp 1]:=bV mx Tryz.func229 (by kernel_rfl) (by kernel_rfl)
def ajd:FnF Tryz.prog 231 Tryz.f231 60 [] [.tmp 4,.tmp 5]:=bV mx Tryz.func231 (by kernel_rfl) (by kernel_rfl)
def aje:FnF Tryz.prog 232 Tryz.f232 27 [] [.tmp 4]:=bV mx Tryz.func232 (by kernel_rfl) (by kernel_rfl)
def ajf:FnF Tryz.prog 233 Tryz.f233 50 [(11,.take 0<| .take 1<| .take 2<| .take 5<| .take 3<| .take 6<| .eff 4 false (.take 7<| .eff 8 false (.eff 9 false (.take 10<| .done)<| .no)<| .no)<| .no)] [.tmp 6,.tmp 7]:=bV mx Tryz.func233 (by kernel_rfl) (by kernel_rfl)
def ajg:FnF Tryz.prog 239 Tryz.f239 8 [] [.tmp 2,.tmp 3]:=bV mx Tryz.func239 (by kernel_rfl) (by kernel_rfl)
def ajh:FnF Tryz.prog 242 Tryz.f242 75 [] [.tmp 8,.tmp 9]:=bV mx Tryz.func242 (by kernel_rfl) (by kernel_rfl)
def aeh:FnF Tryz.prog 243 Tryz.f243 19 [] [.tmp 4]:=bV mx Tryz.func243 (by kernel_rfl) (by kernel_rfl)
def aei:FnF Tryz.prog 244 Tryz.f244 63 [] []:=bV mx Tryz.func244 (by kernel_rfl) (by kernel_rfl)
def aap:FnF Tryz.prog 245 Tryz.f245 26 [(1,.take 0<| .take 2<| .eff 1 false (.eff 3 false (.eff 4 false (.eff 5 true (.done)<| .no)<| .no)<| .no)<| .no),(2,.take 0<| .take 2<| .take 5<| .take 7<| .take 10<| .take 12<| .take 1<| .take 3<| .take 6<| .take 8<| .take 11<| .take 13<| .eff 4 false (.eff 9 false (.eff 14 false (.eff 15 false (.eff 16 false (.take 17<| .done)<| .no)<| .no)<| .no)<| .no)<| .no)] [.tmp 4]:=bV mx Tryz.func245 (by kernel_rfl) (by kernel_rfl)
def aji:FnF Tryz.prog 246 Tryz.f246 20 [] [.tmp 4]:=bV mx Tryz.func246 (by kernel_rfl) (by kernel_rfl)
def aej:FnF Tryz.prog 247 Tryz.f247 140 [(3,.take 0<| .take 1<| .take 2<| .take 3<| .take 4<| .take 5<| .eff 6 true (.take 7<| .done)<| .no),(5,.take 0<| .take 1<| .take 2<| .take 4<| .take 5<| .take 3<| .take 6<| .eff 7 true (.take 8<| .done)<| .no),(7,.take 0<| .take 1<| .take 2<| .take 3<| .take 4<| .take 6<| .take 7<| .take 10<| .take 11<| .take 12<| .take 13<| .take 14<| .take 16<| .take 17<| .take 20<| .take 21<| .take 22<| .take 23<| .take 24<| .take 26<| .take 27<| .take 5<| .take 8<| .take 15<| .take 18<| .take 25<| .take 28<| .eff 9 false (.eff 19 false (.eff 29 false (.eff 30 false (.eff 31 false (.take 32<| .done)<| .no)<| .no)<| .no)<| .no)<| .no),(9,.take 0<| .take 1<| .take 3<| .take 4<| .take 2<| .take 5<| .eff 6 false (.eff 7 false (.take 8<| .done)<| .no)<| .no),(11,.take 0<| .take 1<| .take 3<| .take 4<| .take 2<| .take 5<| .eff 6 false (.eff 7 false (.eff 8 false (.take 9<| .done)<| .no)<| .no)<| .no),(13,.take 0<| .take 1<| .take 3<| .take 4<| .take 2<| .take 5<| .eff 6 true (.take 7<| .done)<| .no),(15,.take 0<| .take 1<| .take 3<| .take 4<| .take 2<| .take 5<| .eff 6 true (.take 7<| .done)<| .no),(17,.take 0<| .take 1<| .take 2<| .take 4<| .take 5<| .take 3<| .take 6<| .eff 7 true (.take 8<| .done)<| .no),(19,.take 0<| .take 1<| .take 2<| .take 4<| .take 5<| .take 7<| .take 8<| .take 3<| .take 6<| .take 9<| .eff 10 false (.eff 11 false (.eff 12 false (.take 13<| .done)<| .no)<| .no)<| .no)] [.tmp 10]:=bV mx Tryz.func247 (by kernel_rfl) (by kernel_rfl)
def ajj:FnF Tryz.prog 248 Tryz.f248 31 [] [.tmp 2]:=bV mx Tryz.func248 (by kernel_rfl) (by kernel_rfl)
def aek:FnF Tryz.prog 249 Tryz.f249 68 [(6,.take 0<| .take 1<| .take 3<| .take 4<| .take 2<| .take 5<| .eff 6 true (.take 7<| .take 8<| .take 9<| .take 10<| .done)<| .no),(12,.take 0<| .take 1<| .take 3<| .take 4<| .take 2<| .take 5<| .eff 6 true (.take 7<| .take 8<| .take 9<| .take 10<| .take 11<| .done)<| .no),(2,.take 0<| .take 1<| .take 3<| .take 4<| .take 2<| .take 5<| .eff 6 true (.take 7<| .take 8<| .take 9<| .take 10<| .take 11<| .done)<| .no)] [.tmp 4,.tmp 5]:=bV mx Tryz.func249 (by kernel_rfl) (by kernel_rfl)
def ajk:FnF Tryz.prog 250 Tryz.f250 15 [] [.tmp 4]:=bV mx Tryz.func250 (by kernel_rfl) (by kernel_rfl)
def ajl:FnF Tryz.prog 257 Tryz.f257 22 [] [.tmp 4]:=bV mx Tryz.func257 (by kernel_rfl) (by kernel_rfl)
def ael:FnF Tryz.prog 263 Tryz.f263 5 [] [.tmp 2]:=bV mx Tryz.func263 (by kernel_rfl) (by kernel_rfl)
def aem:FnF Tryz.prog 266 Tryz.f266 15 [(1,.take 1<| .take 5<| .take 0<| .take 2<| .take 4<| .take 6<| .eff 3 false (.eff 7 false (.eff 8 false (.take 9<| .done)<| .no)<| .no)<| .no)] [.tmp 5]:=bV mx Tryz.func266 (by kernel_rfl) (by kernel_rfl)
def aen:FnF Tryz.prog 267 Tryz.f267 53 [(4,.take 0<| .take 1<| .take 2<| .take 3<| .take 4<| .take 5<| .take 6<| .take 7<| .take 9<| .take 10<| .take 11<| .take 12<| .take 8<| .take 13<| .eff 14 true (.take 15<| .take 16<| .done)<| .no),(6,.take 0<| .take 1<| .take 2<| .take 3<| .take 4<| .take 5<| .take 6<| .take 7<| .take 8<| .take 10<| .take 11<| .take 12<| .take 9<| .take 13<| .take 14<| .eff 15 true (.take 16<| .eff 17 true (.done)<| .no)<| .no)] []:=bV mx Tryz.func267 (by kernel_rfl) (by kernel_rfl)
def ajm:FnF Tryz.prog 268 Tryz.f268 220 [(5,.take 0<| .take 1<| .take 2<| .take 3<| .take 5<| .take 6<| .take 7<| .take 4<| .take 8<| .eff 9 true (.take 10<| .done)<| .no),(11,.take 0<| .take 1<| .take 2<| .take 3<| .take 4<| .take 5<| .take 6<| .take 7<| .take 8<| .take 10<| .take 11<| .take 12<| .take 9<| .take 13<| .take 14<| .eff 15 true (.take 16<| .eff 17 true (.done)<| .no)<| .no),(17,.take 0<| .take 1<| .take 2<| .take 3<| .take 5<| .take 6<| .take 7<| .take 4<| .take 8<| .eff 9 true (.take 10<| .take 11<| .done)<| .no),(23,.take 0<| .take 1<| .take 2<| .take 3<| .take 4<| .take 5<| .take 6<| .take 7<| .take 8<| .take 10<| .take 11<| .take 12<| .take 9<| .take 13<| .take 14<| .eff 15 true (.take 16<| .eff 17 true (.done)<| .no)<| .no),(35,.take 0<| .take 1<| .take 2<| .take 3<| .take 4<| .take 5<| .take 7<| .take 8<| .take 9<| .take 6<| .take 10<| .eff 11 true (.take 12<| .take 13<| .done)<| .no)] []:=bV mx Tryz.func268 (by kernel_rfl) (by kernel_rfl)
def aeo:FnF Tryz.prog 269 Tryz.f269 18 [] [.tmp 2]:=bV mx Tryz.func269 (by kernel_rfl) (by kernel_rfl)
def ajn:FnF Tryz.prog 270 Tryz.f270 20 [] [.tmp 4]:=bV mx Tryz.func270 (by kernel_rfl) (by kernel_rfl)
def ajo:FnF Tryz.prog 272 Tryz.f272 6 [] [.tmp 2]:=bV mx Tryz.func272 (by kernel_rfl) (by kernel_rfl)
def ajp:FnF Tryz.prog 274 Tryz.f274 27 [(5,.take 0<| .take 1<| .take 2<| .take 5<| .take 3<| .take 6<| .eff 4 false (.take 7<| .eff 8 false (.eff 9 false (.take 10<| .done)<| .no)<| .no)<| .no)] [.tmp 4]:=bV mx Tryz.func274 (by kernel_rfl) (by kernel_rfl)
def aaq:FnF Tryz.prog 275 Tryz.f275 6 [] [.tmp 2]:=bV mx Tryz.func275 (by kernel_rfl) (by kernel_rfl)
def ajq:FnF Tryz.prog 276 Tryz.f276 23 [] [.tmp 2]:=bV mx Tryz.func276 (by kernel_rfl) (by kernel_rfl)
def ajr:FnF Tryz.prog 281 Tryz.f281 16 [] [.tmp 6]:=bV mx Tryz.func281 (by kernel_rfl) (by kernel_rfl)
def ajs:FnF Tryz.prog 283 Tryz.f283 24 [] [.tmp 4]:=bV mx Tryz.func283 (by kernel_rfl) (by kernel_rfl)
def ajt:FnF Tryz.prog 284 Tryz.f284 19 [] [.tmp 4,.tmp 5]:=bV mx Tryz.func284 (by kernel_rfl) (by kernel_rfl)
def aju:FnF Tryz.prog 298 Tryz.f298 58 [] []:=bV mx Tryz.func298 (by kernel_rfl) (by kernel_rfl)
def ajv:FnF Tryz.prog 299 Tryz.f299 6 [] [.tmp 2]:=bV mx Tryz.func299 (by kernel_rfl) (by kernel_rfl)
def ajw:FnF Tryz.prog 305 Tryz.f305 43 [] [.tmp 4]:=bV mx Tryz.func305 (by kernel_rfl) (by kernel_rfl)
def ajx:FnF Tryz.prog 318 Tryz.f318 38 [(3,.take 0<| .take 1<| .take 2<| .take 3<| .take 4<| .take 5<| .take 6<| .take 7<| .take 8<| .take 9<| .take 10<| .take 11<| .take 12<| .take 14<| .take 15<| .take 16<| .take 17<| .take 18<| .take 13<| .take 19<| .take 20<| .eff 21 true (.take 22<| .eff 23 true (.done)<| .no)<| .no)] []:=bV mx Tryz.func318 (by kernel_rfl) (by kernel_rfl)
def aar:FnF Tryz.prog 324 Tryz.f324 42 [] [.tmp 4]:=bV mx Tryz.func324 (by kernel_rfl) (by kernel_rfl)
def aep:FnF Tryz.prog 325 Tryz.f325 8 [] [.tmp 2]:=bV mx Tryz.func325 (by kernel_rfl) (by kernel_rfl)
def ajy:FnF Tryz.prog 326 Tryz.f326 6 [] [.tmp 2]:=bV mx Tryz.func326 (by kernel_rfl) (by kernel_rfl)
def aeq:FnF Tryz.prog 327 Tryz.f327 21 [(1,.take 4<| .take 11<| .take 0<| .take 1<| .take 2<| .take 3<| .take 5<| .take 7<| .take 8<| .take 9<| .take 10<| .take 12<| .eff 6 false (.eff 13 false (.eff 14 false (.take 15<| .done)<| .no)<| .no)<| .no)] [.tmp 5]:=bV mx Tryz.func327 (by kernel_rfl) (by kernel_rfl)
theorem zW:kz Tryz.prog 114=true:=by kernel_rfl
theorem TH:kz Tryz.prog 117=true:=by kernel_rfl
theorem acI:kz Tryz.prog 118=true:=by kernel_rfl
theorem zX:kz Tryz.prog 130=true:=by kernel_rfl
theorem TI:kz Tryz.prog 145=true:=by kernel_rfl
theorem JS:kz Tryz.prog 152=true:=by kernel_rfl
theorem JT:kz Tryz.prog 153=true:=by kernel_rfl
theorem D6:kz Tryz.prog 181=true:=by kernel_rfl
theorem LZ:kz Tryz.prog 22=true:=by kernel_rfl
theorem acJ:kz Tryz.prog 222=true:=by kernel_rfl
theorem GC:kz Tryz.prog 24=true:=by kernel_rfl
theorem acK:kz Tryz.prog 264=true:=by kernel_rfl
theorem acL:kz Tryz.prog 272=true:=by kernel_rfl
theorem zY:kz Tryz.prog 29=true:=by kernel_rfl
theorem acM:kz Tryz.prog 313=true:=by kernel_rfl
theorem iw:kz Tryz.prog 32=true:=by kernel_rfl
theorem acN:kz Tryz.prog 336=true:=by kernel_rfl
theorem L7:kz Tryz.prog 42=true:=by kernel_rfl
theorem ZR:kz Tryz.prog 47=true:=by kernel_rfl
theorem L8:kz Tryz.prog 51=true:=by kernel_rfl
theorem TJ:kz Tryz.prog 52=true:=by kernel_rfl
theorem kA:kz Tryz.prog 53=true:=by kernel_rfl
theorem GD:kz Tryz.prog 54=true:=by kernel_rfl
theorem GE:kz Tryz.prog 62=true:=by kernel_rfl
theorem agD:kz Tryz.prog 67=true:=by kernel_rfl
theorem ZS:kz Tryz.prog 76=true:=by kernel_rfl
theorem zZ:kz Tryz.prog 86=true:=by kernel_rfl
theorem wS:kz Tryz.prog 87=true:=by kernel_rfl
theorem L9:kz Tryz.prog 88=true:=by kernel_rfl
theorem agE:kz Tryz.prog 94=true:=by kernel_rfl
theorem Am:dY Tryz.prog 114=some (116,6,[(.int .i64 (0)),(.int .i64 (0)),(.int .i64 (0)),(.string ⟨#[]⟩),(.int .i64 (0)),(.slice none 0 0)]):=by kernel_rfl
theorem Ul:dY Tryz.prog 117=some (281,7,[(.int .i64 (0)),(.int .i64 (0)),(.int .i64 (0)),(.int .i64 (0)),(.string ⟨#[]⟩),(.int .i64 (0)),(.slice none 0 0)]):=by kernel_rfl
theorem ac2:dY Tryz.prog 118=some (120,11,[(.int .i64 (0)),(.int .i64 (0)),(.int .i64 (0)),(.int .i64 (0)),(.int .i64 (0)),(.string ⟨#[]⟩),(.int .i64 (0)),(.slice none 0 0),(.slice none 0 0),(.slice none 0 0),(.slice none 0 0)]):=by kernel_rfl
theorem An:dY Tryz.prog 130=some (53,1,[(.slice none 0 0)]):=by kernel_rfl
theorem Um:dY Tryz.prog 145=some (5,1,[(.int .u8 (0))]):=by kernel_rfl
theorem Kb:dY Tryz.prog 152=some (215,8,[(.int .i64 (0)),(.int .i64 (0)),(.int .i64 (0)),(.string ⟨#[]⟩),(.string ⟨#[]⟩),(.string ⟨#[]⟩),(.slice none 0 0),(.string ⟨#[]⟩)]):=by kernel_rfl
theorem Kc:dY Tryz.prog 153=some (218,10,[(.int .i64 (0)),(.string ⟨#[]⟩),(.string ⟨#[]⟩),(.int .i64 (0)),(.int .i64 (0)),(.int .i64 (0)),(.string ⟨#[]⟩),(.string ⟨#[]⟩),(.string ⟨#[]⟩),(.slice none 0 0)]):=by kernel_rfl
theorem Ef:dY Tryz.prog 181=some (186,2,[(.string ⟨#[]⟩),(.string ⟨#[]⟩)]):=by kernel_rfl
theorem Mj:dY Tryz.prog 22=some (25,1,[(.slice none 0 0)]):=by kernel_rfl
theorem ac3:dY Tryz.prog 222=some (225,3,[(.slice none 0 0),(.int .i64 (0)),(.bool false)]):=by kernel_rfl
theorem G6:dY Tryz.prog 24=some (29,1,[(.slice none 0 0)]):=by kernel_rfl
theorem ac4:dY Tryz.prog 264=some (33,1,[(.int .i64 (0))]):=by kernel_rfl
theorem ac5:dY Tryz.prog 272=some (21,1,[(.int .i32 (0))]):=by kernel_rfl
theorem Ao:dY Tryz.prog 29=some (27,3,[(.int .i64 (0)),(.int .i64 (0)),(.string ⟨#[]⟩)]):=by kernel_rfl
theorem ac6:dY Tryz.prog 313=some (87,1,[(.slice none 0 0)]):=by kernel_rfl
theorem ix:dY Tryz.prog 32=some (37,2,[(.slice none 0 0),(.int .i64 (0))]):=by kernel_rfl
theorem ac7:dY Tryz.prog 336=some (124,1,[.nilFunc]):=by kernel_rfl
theorem Mk:dY Tryz.prog 42=some (60,16,[(.int .i64 (0)),(.string ⟨#[]⟩),(.slice none 0 0),(.slice none 0 0),(.slice none 0 0),(.slice none 0 0),(.int .i64 (0)),(.slice none 0 0),(.bool false),(.int .i64 (0)),(.int .i64 (0)),(.int .i64 (0)),(.string ⟨#[]⟩),(.string ⟨#[]⟩),(.string ⟨#[]⟩),(.slice none 0 0)]):=by kernel_rfl
theorem ZV:dY Tryz.prog 47=some (64,3,[(.int .i64 (0)),(.slice none 0 0),(.slice none 0 0)]):=by kernel_rfl
theorem Ml:dY Tryz.prog 51=some (109,2,[(.string ⟨#[]⟩),(.int .i64 (0))]):=by kernel_rfl
theorem Un:dY Tryz.prog 52=some (155,21,[(.bool false),(.bool false),(.slice none 0 0),(.slice none 0 0),(.bool false),(.bool false),(.int .i64 (0)),(.int .i64 (0)),(.int .i64 (0)),(.string ⟨#[]⟩),(.string ⟨#[]⟩),(.string ⟨#[]⟩),(.slice none 0 0),(.int .i64 (0)),(.int .i64 (0)),(.int .i64 (0)),(.string ⟨#[]⟩),(.string ⟨#[]⟩),(.string ⟨#[]⟩),(.slice none 0 0),(.slice none 0 0)]):=by kernel_rfl
theorem kB:dY Tryz.prog 53=some (3,1,[(.int .i64 (0))]):=by kernel_rfl
theorem G7:dY Tryz.prog 54=some (58,7,[(.int .i64 (0)),(.int .i64 (0)),(.int .i64 (0)),(.string ⟨#[]⟩),(.string ⟨#[]⟩),(.string ⟨#[]⟩),(.slice none 0 0)]):=by kernel_rfl
theorem G8:dY Tryz.prog 62=some (9,1,[(.string ⟨#[]⟩)]):=by kernel_rfl
theorem agJ:dY Tryz.prog 67=some (71,2,[(.string ⟨#[]⟩),(.string ⟨#[]⟩)]):=by kernel_rfl
theorem ZW:dY Tryz.prog 76=some (101,3,[(.int .i64 (0)),(.string ⟨#[]⟩),(.int .i64 (0))]):=by kernel_rfl
theorem Ap:dY Tryz.prog 86=some (122,14,[(.string ⟨#[]⟩),(.slice none 0 0),(.bool false),(.int .i64 (0)),(.int .i64 (0)),(.int .i64 (0)),(.int .i64 (0)),(.int .i64 (0)),(.string ⟨#[]⟩),(.int .i64 (0)),(.slice none 0 0),(.slice none 0 0),(.slice none 0 0),(.slice none 0 0)]):=by kernel_rfl
theorem wW:dY Tryz.prog 87=some (32,1,[(.slice none 0 0)]):=by kernel_rfl
theorem Mm:dY Tryz.prog 88=some (127,1,[(.pointer none)]):=by kernel_rfl
theorem agK:dY Tryz.prog 94=some (42,1,[(.slice none 0 0)]):=by kernel_rfl
theorem WD:Tryz.prog.concrete 172=true:=by kernel_rfl
theorem aaK:Tryz.prog.concrete 74=true:=by kernel_rfl
theorem aeD:Tryz.prog.concrete 9=true:=by kernel_rfl
theorem tz0:bt Tryz.prog 101=some ([(.int .i64 (0)),(.string ⟨#[]⟩),(.int .i64 (0))],[(0,1),(1,1),(2,1)])/\bt Tryz.prog 109=some ([(.string ⟨#[]⟩),(.int .i64 (0))],[(0,1),(1,1)])/\bt Tryz.prog 116=some ([(.int .i64 (0)),(.int .i64 (0)),(.int .i64 (0)),(.string ⟨#[]⟩),(.int .i64 (0)),(.slice none 0 0)],[(0,1),(1,3),(4,1),(5,1)])/\bt Tryz.prog 120=some ([(.int .i64 (0)),(.int .i64 (0)),(.int .i64 (0)),(.int .i64 (0)),(.int .i64 (0)),(.string ⟨#[]⟩),(.int .i64 (0)),(.slice none 0 0),(.slice none 0 0),(.slice none 0 0),(.slice none 0 0)],[(0,1),(1,1),(2,6),(8,1),(9,1),(10,1)])/\bt Tryz.prog 122=some ([(.string ⟨#[]⟩),(.slice none 0 0),(.bool false),(.int .i64 (0)),(.int .i64 (0)),(.int .i64 (0)),(.int .i64 (0)),(.int .i64 (0)),(.string ⟨#[]⟩),(.int .i64 (0)),(.slice none 0 0),(.slice none 0 0),(.slice none 0 0),(.slice none 0 0)],[(0,1),(1,1),(2,1),(3,11)])/\bt Tryz.prog 155=some ([(.bool false),(.bool false),(.slice none 0 0),(.slice none 0 0),(.bool false),(.bool false),(.int .i64 (0)),(.int .i64 (0)),(.int .i64 (0)),(.string ⟨#[]⟩),(.string ⟨#[]⟩),(.string ⟨#[]⟩),(.slice none 0 0),(.int .i64 (0)),(.int .i64 (0)),(.int .i64 (0)),(.string ⟨#[]⟩),(.string ⟨#[]⟩),(.string ⟨#[]⟩),(.slice none 0 0),(.slice none 0 0)],[(0,1),(1,1),(2,1),(3,1),(4,1),(5,1),(6,7),(13,7),(20,1)])/\bt Tryz.prog 172=some ([(.int .i64 (0))],[(0,1)])/\bt Tryz.prog 175=some ([(.slice none 0 0)],[(0,1)])/\bt Tryz.prog 184=some ([(.slice none 0 0),(.slice none 0 0),(.pointer none),(.pointer none)],[(0,1),(1,1),(2,1),(3,1)])/\bt Tryz.prog 186=some ([(.string ⟨#[]⟩),(.string ⟨#[]⟩)],[(0,1),(1,1)])/\bt Tryz.prog 192=some ([(.slice none 0 0),(.int .i64 (0)),(.int .i64 (0)),(.int .i64 (0)),(.int .i64 (0)),(.int .i64 (0)),(.string ⟨#[]⟩),(.int .i64 (0)),(.slice none 0 0),(.slice none 0 0),(.slice none 0 0),(.slice none 0 0),(.slice none 0 0),(.slice none 0 0)],[(0,1),(1,11),(12,1),(13,1)])/\bt Tryz.prog 215=some ([(.int .i64 (0)),(.int .i64 (0)),(.int .i64 (0)),(.string ⟨#[]⟩),(.string ⟨#[]⟩),(.string ⟨#[]⟩),(.slice none 0 0),(.string ⟨#[]⟩)],[(0,7),(7,1)])/\bt Tryz.prog 218=some ([(.int .i64 (0)),(.string ⟨#[]⟩),(.string ⟨#[]⟩),(.int .i64 (0)),(.int .i64 (0)),(.int .i64 (0)),(.string ⟨#[]⟩),(.string ⟨#[]⟩),(.string ⟨#[]⟩),(.slice none 0 0)],[(0,1),(1,1),(2,1),(3,7)])/\bt Tryz.prog 225=some ([(.slice none 0 0),(.int .i64 (0)),(.bool false)],[(0,1),(1,1),(2,1)])/\bt Tryz.prog 232=some ([(.int .i64 (0))],[(0,1)])/\bt Tryz.prog 249=some ([(.slice none 0 0),(.int .i64 (0))],[(0,1),(1,1)])/\bt Tryz.prog 27=some ([(.int .i64 (0)),(.int .i64 (0)),(.string ⟨#[]⟩)],[(0,1),(1,1),(2,1)])/\bt Tryz.prog 281=some ([(.int .i64 (0)),(.int .i64 (0)),(.int .i64 (0)),(.int .i64 (0)),(.string ⟨#[]⟩),(.int .i64 (0)),(.slice none 0 0)],[(0,1),(1,6)])/\bt Tryz.prog 317=some ([(.slice none 0 0),(.slice none 0 0),(.slice none 0 0)],[(0,1),(1,1),(2,1)])/\bt Tryz.prog 323=some ([(.slice none 0 0),(.int .i64 (0))],[(0,1),(1,1)])/\bt Tryz.prog 37=some ([(.slice none 0 0),(.int .i64 (0))],[(0,1),(1,1)])/\bt Tryz.prog 44=some ([(.int .i64 (0)),(.int .i64 (0))],[(0,1),(1,1)])/\bt Tryz.prog 56=some ([(.slice none 0 0),(.slice none 0 0),(.slice none 0 0),(.int .i64 (0))],[(0,1),(1,1),(2,1),(3,1)])/\bt Tryz.prog 58=some ([(.int .i64 (0)),(.int .i64 (0)),(.int .i64 (0)),(.string ⟨#[]⟩),(.string ⟨#[]⟩),(.string ⟨#[]⟩),(.slice none 0 0)],[(0,1),(1,3),(4,1),(5,1),(6,1)])/\bt Tryz.prog 60=some ([(.int .i64 (0)),(.string ⟨#[]⟩),(.slice none 0 0),(.slice none 0 0),(.slice none 0 0),(.slice none 0 0),(.int .i64 (0)),(.slice none 0 0),(.bool false),(.int .i64 (0)),(.int .i64 (0)),(.int .i64 (0)),(.string ⟨#[]⟩),(.string ⟨#[]⟩),(.string ⟨#[]⟩),(.slice none 0 0)],[(0,1),(1,1),(2,1),(3,4),(7,1),(8,1),(9,7)])/\bt Tryz.prog 64=some ([(.int .i64 (0)),(.slice none 0 0),(.slice none 0 0)],[(0,1),(1,1),(2,1)])/\bt Tryz.prog 71=some ([(.string ⟨#[]⟩),(.string ⟨#[]⟩)],[(0,1),(1,1)])/\bt Tryz.prog 74=some ([(.int .i64 (0)),(.int .i64 (0))],[(0,2)])/\bt Tryz.prog 79=some ([(.slice none 0 0),(.int .i64 (0)),(.int .i64 (0))],[(0,1),(1,1),(2,1)])/\bt Tryz.prog 90=some ([(.slice none 0 0),(.slice none 0 0),(.slice none 0 0),(.slice none 0 0)],[(0,1),(1,1),(2,1),(3,1)])/\cvT Tryz.prog 332 3=some .i64/\cvT Tryz.prog 3 332=some .u64/\cvT Tryz.prog 5 3=some .i64/\VL Tryz.prog 332 3=0/\VL Tryz.prog 3 332=0/\VL Tryz.prog 5 3=0/\df Tryz.prog 114=some 6/\df Tryz.prog 117=some 7/\df Tryz.prog 118=some 11/\df Tryz.prog 130=some 1/\df Tryz.prog 152=some 8/\df Tryz.prog 153=some 10/\df Tryz.prog 181=some 2/\df Tryz.prog 22=some 1/\df Tryz.prog 222=some 3/\df Tryz.prog 24=some 1/\df Tryz.prog 25=some 1/\df Tryz.prog 264=some 1/\df Tryz.prog 272=some 1/\df Tryz.prog 29=some 3/\df Tryz.prog 313=some 1/\df Tryz.prog 32=some 2/\df Tryz.prog 336=some 1/\df Tryz.prog 42=some 16/\df Tryz.prog 47=some 3/\df Tryz.prog 51=some 2/\df Tryz.prog 52=some 21/\df Tryz.prog 53=some 1/\df Tryz.prog 54=some 7/\df Tryz.prog 62=some 1:=by (repeat' apply And.intro)<;>kernel_rfl
theorem tz1:df Tryz.prog 67=some 2/\df Tryz.prog 76=some 3/\df Tryz.prog 86=some 14/\df Tryz.prog 87=some 1/\df Tryz.prog 88=some 1/\df Tryz.prog 94=some 1/\fdP Tryz.prog 27 0=some (false,0,1)/\cG Tryz.prog 101 0=some 0/\cG Tryz.prog 101 1=some 1/\cG Tryz.prog 101 2=some 2/\cG Tryz.prog 109 0=some 0/\cG Tryz.prog 109 1=some 1/\cG Tryz.prog 116 0=some 0/\cG Tryz.prog 116 1=some 1/\cG Tryz.prog 116 2=some 4/\cG Tryz.prog 116 3=some 5/\cG Tryz.prog 120 0=some 0/\cG Tryz.prog 120 1=some 1/\cG Tryz.prog 120 2=some 2/\cG Tryz.prog 120 3=some 8/\cG Tryz.prog 120 4=some 9/\cG Tryz.prog 120 5=some 10/\cG Tryz.prog 122 0=some 0/\cG Tryz.prog 122 1=some 1/\cG Tryz.prog 122 2=some 2/\cG Tryz.prog 122 3=some 3/\cG Tryz.prog 147 1=some 1/\cG Tryz.prog 155 0=some 0/\cG Tryz.prog 155 1=some 1/\cG Tryz.prog 155 2=some 2/\cG Tryz.prog 155 3=some 3/\cG Tryz.prog 155 4=some 4/\cG Tryz.prog 155 5=some 5/\cG Tryz.prog 155 6=some 6/\cG Tryz.prog 155 7=some 13/\cG Tryz.prog 155 8=some 20/\cG Tryz.prog 172 0=some 0/\cG Tryz.prog 175 0=some 0/\cG Tryz.prog 184 0=some 0/\cG Tryz.prog 184 1=some 1/\cG Tryz.prog 184 2=some 2/\cG Tryz.prog 184 3=some 3/\cG Tryz.prog 186 0=some 0/\cG Tryz.prog 186 1=some 1/\cG Tryz.prog 192 0=some 0/\cG Tryz.prog 192 1=some 1/\cG Tryz.prog 192 2=some 12/\cG Tryz.prog 192 3=some 13/\cG Tryz.prog 215 0=some 0/\cG Tryz.prog 215 1=some 7/\cG Tryz.prog 218 0=some 0/\cG Tryz.prog 218 1=some 1/\cG Tryz.prog 218 2=some 2/\cG Tryz.prog 218 3=some 3/\cG Tryz.prog 225 0=some 0/\cG Tryz.prog 225 1=some 1/\cG Tryz.prog 225 2=some 2/\cG Tryz.prog 232 0=some 0/\cG Tryz.prog 249 0=some 0/\cG Tryz.prog 249 1=some 1:=by (repeat' apply And.intro)<;>kernel_rfl
theorem tz2:cG Tryz.prog 27 0=some 0/\cG Tryz.prog 27 1=some 1/\cG Tryz.prog 27 2=some 2/\cG Tryz.prog 281 0=some 0/\cG Tryz.prog 281 1=some 1/\cG Tryz.prog 317 0=some 0/\cG Tryz.prog 317 1=some 1/\cG Tryz.prog 317 2=some 2/\cG Tryz.prog 323 0=some 0/\cG Tryz.prog 323 1=some 1/\cG Tryz.prog 37 0=some 0/\cG Tryz.prog 37 1=some 1/\cG Tryz.prog 44 0=some 0/\cG Tryz.prog 56 0=some 0/\cG Tryz.prog 56 1=some 1/\cG Tryz.prog 56 2=some 2/\cG Tryz.prog 56 3=some 3/\cG Tryz.prog 58 0=some 0/\cG Tryz.prog 58 1=some 1/\cG Tryz.prog 58 2=some 4/\cG Tryz.prog 58 3=some 5/\cG Tryz.prog 58 4=some 6/\cG Tryz.prog 60 0=some 0/\cG Tryz.prog 60 1=some 1/\cG Tryz.prog 60 2=some 2/\cG Tryz.prog 60 3=some 3/\cG Tryz.prog 60 4=some 7/\cG Tryz.prog 60 5=some 8/\cG Tryz.prog 60 6=some 9/\cG Tryz.prog 64 2=some 2/\cG Tryz.prog 71 0=some 0/\cG Tryz.prog 71 1=some 1/\cG Tryz.prog 74 0=some 0/\cG Tryz.prog 79 0=some 0/\cG Tryz.prog 79 1=some 1/\cG Tryz.prog 79 2=some 2/\cG Tryz.prog 90 0=some 0/\cG Tryz.prog 90 1=some 1/\cG Tryz.prog 90 2=some 2/\cG Tryz.prog 90 3=some 3/\uv Tryz.prog 4=true/\dP Tryz.prog 114=true/\dP Tryz.prog 117=true/\dP Tryz.prog 118=true/\dP Tryz.prog 130=true/\dP Tryz.prog 145=true/\dP Tryz.prog 152=true/\dP Tryz.prog 153=true/\dP Tryz.prog 181=true/\dP Tryz.prog 22=true/\dP Tryz.prog 222=true/\dP Tryz.prog 24=true/\dP Tryz.prog 25=true/\dP Tryz.prog 264=true/\dP Tryz.prog 29=true/\dP Tryz.prog 313=true/\dP Tryz.prog 32=true/\dP Tryz.prog 336=true/\dP Tryz.prog 42=true/\dP Tryz.prog 51=true:=by (repeat' apply And.intro)<;>kernel_rfl
theorem tz3:dP Tryz.prog 52=true/\dP Tryz.prog 53=true/\dP Tryz.prog 54=true/\dP Tryz.prog 62=true/\dP Tryz.prog 67=true/\dP Tryz.prog 76=true/\dP Tryz.prog 86=true/\dP Tryz.prog 87=true/\dP Tryz.prog 88=true/\dP Tryz.prog 9=false/\dP Tryz.prog 94=true/\cL Tryz.prog 114=false/\cL Tryz.prog 117=false/\cL Tryz.prog 118=false/\cL Tryz.prog 130=false/\cL Tryz.prog 145=false/\cL Tryz.prog 152=false/\cL Tryz.prog 153=false/\cL Tryz.prog 181=false/\cL Tryz.prog 22=false/\cL Tryz.prog 222=false/\cL Tryz.prog 24=false/\cL Tryz.prog 25=false/\cL Tryz.prog 264=false/\cL Tryz.prog 29=false/\cL Tryz.prog 313=false/\cL Tryz.prog 32=false/\cL Tryz.prog 336=false/\cL Tryz.prog 42=false/\cL Tryz.prog 51=false/\cL Tryz.prog 52=false/\cL Tryz.prog 53=false/\cL Tryz.prog 54=false/\cL Tryz.prog 62=false/\cL Tryz.prog 67=false/\cL Tryz.prog 76=false/\cL Tryz.prog 86=false/\cL Tryz.prog 87=false/\cL Tryz.prog 88=false/\cL Tryz.prog 9=true/\cL Tryz.prog 94=false/\JJ Tryz.prog 299=some .i64/\tk Tryz.prog 101=some (true,3,(.agg #[(.int .i64 (0)),(.string ⟨#[]⟩),(.int .i64 (0))]))/\tk Tryz.prog 109=some (true,2,(.agg #[(.string ⟨#[]⟩),(.int .i64 (0))]))/\tk Tryz.prog 114=some (false,1,(.slice none 0 0))/\tk Tryz.prog 116=some (true,6,(.agg #[(.int .i64 (0)),(.int .i64 (0)),(.int .i64 (0)),(.string ⟨#[]⟩),(.int .i64 (0)),(.slice none 0 0)]))/\tk Tryz.prog 117=some (false,1,(.slice none 0 0))/\tk Tryz.prog 118=some (false,1,(.slice none 0 0))/\tk Tryz.prog 120=some (true,11,(.agg #[(.int .i64 (0)),(.int .i64 (0)),(.int .i64 (0)),(.int .i64 (0)),(.int .i64 (0)),(.string ⟨#[]⟩),(.int .i64 (0)),(.slice none 0 0),(.slice none 0 0),(.slice none 0 0),(.slice none 0 0)]))/\tk Tryz.prog 122=some (true,14,(.agg #[(.string ⟨#[]⟩),(.slice none 0 0),(.bool false),(.int .i64 (0)),(.int .i64 (0)),(.int .i64 (0)),(.int .i64 (0)),(.int .i64 (0)),(.string ⟨#[]⟩),(.int .i64 (0)),(.slice none 0 0),(.slice none 0 0),(.slice none 0 0),(.slice none 0 0)]))/\tk Tryz.prog 124=some (false,1,.nilFunc)/\tk Tryz.prog 127=some (false,1,(.pointer none))/\tk Tryz.prog 130=some (false,1,(.slice none 0 0))/\tk Tryz.prog 145=some (false,1,(.slice none 0 0))/\tk Tryz.prog 147=some (true,2,(.agg #[(.pointer none),(.slice none 0 0)]))/\tk Tryz.prog 152=some (false,1,(.slice none 0 0))/\tk Tryz.prog 153=some (false,1,(.slice none 0 0))/\tk Tryz.prog 155=some (true,21,(.agg #[(.bool false),(.bool false),(.slice none 0 0),(.slice none 0 0),(.bool false),(.bool false),(.int .i64 (0)),(.int .i64 (0)),(.int .i64 (0)),(.string ⟨#[]⟩),(.string ⟨#[]⟩),(.string ⟨#[]⟩),(.slice none 0 0),(.int .i64 (0)),(.int .i64 (0)),(.int .i64 (0)),(.string ⟨#[]⟩),(.string ⟨#[]⟩),(.string ⟨#[]⟩),(.slice none 0 0),(.slice none 0 0)]))/\tk Tryz.prog 172=some (true,1,(.agg #[(.int .i64 (0))]))/\tk Tryz.prog 178=some (false,1,(.pointer none)):=by (repeat' apply And.intro)<;>kernel_rfl
theorem tz4:tk Tryz.prog 180=some (false,1,(.pointer none))/\tk Tryz.prog 181=some (false,1,(.slice none 0 0))/\tk Tryz.prog 182=some (false,1,(.pointer none))/\tk Tryz.prog 186=some (true,2,(.agg #[(.string ⟨#[]⟩),(.string ⟨#[]⟩)]))/\tk Tryz.prog 196=some (false,1,(.pointer none))/\tk Tryz.prog 2=some (false,1,(.int .i64 (0)))/\tk Tryz.prog 202=some (false,1,(.pointer none))/\tk Tryz.prog 206=some (false,1,(.pointer none))/\tk Tryz.prog 21=some (false,1,(.int .i32 (0)))/\tk Tryz.prog 215=some (true,8,(.agg #[(.int .i64 (0)),(.int .i64 (0)),(.int .i64 (0)),(.string ⟨#[]⟩),(.string ⟨#[]⟩),(.string ⟨#[]⟩),(.slice none 0 0),(.string ⟨#[]⟩)]))/\tk Tryz.prog 218=some (true,10,(.agg #[(.int .i64 (0)),(.string ⟨#[]⟩),(.string ⟨#[]⟩),(.int .i64 (0)),(.int .i64 (0)),(.int .i64 (0)),(.string ⟨#[]⟩),(.string ⟨#[]⟩),(.string ⟨#[]⟩),(.slice none 0 0)]))/\tk Tryz.prog 24=some (false,1,(.slice none 0 0))/\tk Tryz.prog 25=some (false,1,(.slice none 0 0))/\tk Tryz.prog 27=some (true,3,(.agg #[(.int .i64 (0)),(.int .i64 (0)),(.string ⟨#[]⟩)]))/\tk Tryz.prog 281=some (true,7,(.agg #[(.int .i64 (0)),(.int .i64 (0)),(.int .i64 (0)),(.int .i64 (0)),(.string ⟨#[]⟩),(.int .i64 (0)),(.slice none 0 0)]))/\tk Tryz.prog 29=some (false,1,(.slice none 0 0))/\tk Tryz.prog 293=some (false,1,(.pointer none))/\tk Tryz.prog 3=some (false,1,(.int .i64 (0)))/\tk Tryz.prog 32=some (false,1,(.slice none 0 0))/\tk Tryz.prog 33=some (false,1,(.int .i64 (0)))/\tk Tryz.prog 37=some (true,2,(.agg #[(.slice none 0 0),(.int .i64 (0))]))/\tk Tryz.prog 4=some (false,1,(.bool false))/\tk Tryz.prog 42=some (false,1,(.slice none 0 0))/\tk Tryz.prog 44=some (true,2,(.agg #[(.int .i64 (0)),(.int .i64 (0))]))/\tk Tryz.prog 47=some (false,1,(.slice none 0 0))/\tk Tryz.prog 5=some (false,1,(.int .u8 (0)))/\tk Tryz.prog 51=some (false,1,(.slice none 0 0))/\tk Tryz.prog 52=some (false,1,(.slice none 0 0))/\tk Tryz.prog 53=some (false,1,(.slice none 0 0))/\tk Tryz.prog 54=some (false,1,(.slice none 0 0))/\tk Tryz.prog 56=some (true,4,(.agg #[(.slice none 0 0),(.slice none 0 0),(.slice none 0 0),(.int .i64 (0))]))/\tk Tryz.prog 58=some (true,7,(.agg #[(.int .i64 (0)),(.int .i64 (0)),(.int .i64 (0)),(.string ⟨#[]⟩),(.string ⟨#[]⟩),(.string ⟨#[]⟩),(.slice none 0 0)]))/\tk Tryz.prog 60=some (true,16,(.agg #[(.int .i64 (0)),(.string ⟨#[]⟩),(.slice none 0 0),(.slice none 0 0),(.slice none 0 0),(.slice none 0 0),(.int .i64 (0)),(.slice none 0 0),(.bool false),(.int .i64 (0)),(.int .i64 (0)),(.int .i64 (0)),(.string ⟨#[]⟩),(.string ⟨#[]⟩),(.string ⟨#[]⟩),(.slice none 0 0)]))/\tk Tryz.prog 62=some (false,1,(.slice none 0 0))/\tk Tryz.prog 71=some (true,2,(.agg #[(.string ⟨#[]⟩),(.string ⟨#[]⟩)]))/\tk Tryz.prog 74=some (true,2,(.agg #[(.int .i64 (0)),(.int .i64 (0))]))/\tk Tryz.prog 75=some (false,1,(.pointer none))/\tk Tryz.prog 76=some (false,1,(.slice none 0 0))/\tk Tryz.prog 86=some (false,1,(.slice none 0 0))/\tk Tryz.prog 87=some (false,1,(.slice none 0 0))/\tk Tryz.prog 88=some (false,1,(.slice none 0 0))/\tk Tryz.prog 9=some (false,1,(.string ⟨#[]⟩)):=by (repeat' apply And.intro)<;>kernel_rfl
attribute [go_sem] tz0 tz1 tz2 tz3 tz4 zW TH acI zX TI JS JT D6 LZ acJ GC acK acL zY acM iw acN L7 ZR L8 TJ kA GD GE agD ZS zZ wS L9 agE Am Ul ac2 An Um Kb Kc Ef Mj ac3 G6 ac4 ac5 Ao ac6 ix ac7 Mk ZV Ml Un kB G7 G8 agJ ZW Ap wW Mm agK
attribute [go_sem ↓] WD aaK aeD
set_option maxRecDepth 10000
def eR (v:V):Int:=
 if v.k=1 then 0 else if v.k=2 then (if v.n≠0/\v.n≠1 then 3 else 0) else if v.k=3 then (if v.n>1000000000000000\/v.n< -1000000000000000 then 3 else 0)
 else if v.k=4 then (if v.t.length>60 then 4 else 0) else 1
def jq (v:V)(M:aR):Ct Tryz.prog 86 [.agg ⟨v.cs⟩] M [] [] (fun r _ _ _=>r=.int .i64 (eR v)) aM:=by
 intro T
 obtain ⟨k,n,t⟩:=v
 refine az F86 rfl rfl ?_
 intro _ _
 simp +contextual only [go_sem,aD,sevalprocAttr,V.cs]
 intro b T1 _ hT _
 (repeat' split)<;>(refine ak hT ?_;refine cR ?_;simp only [eR];grind)
def AZ (v:V)(M:aR):Ct Tryz.prog 35 [.agg ⟨v.cs⟩] M [] [] (fun r _ _ _=>r=.int .i64 (eR v)) aM:=by
 intro T
 obtain ⟨k,n,t⟩:=v
 refine az F35 rfl rfl ?_
 intro _ _
 simp +contextual only [go_sem,aD,sevalprocAttr,V.cs]
 intro b T1 _ hT _
 (repeat' split)<;>(refine ak hT ?_;refine cR ?_;simp only [eR];grind)
def rZ (k:Int):Int:=if k=1\/k=2\/k=19 then 0 else if k=3\/k=16\/(20<=k/\k<=23) then 1 else if (4<=k/\k<=15)\/k=18 then 2 else if k=17 then 3 else -1
def FC (k:Int)(M:aR):Ct Tryz.prog 191 [.int .i64 k] M [] [] (fun r _ _ _=>r=.int .i64 (rZ k)) aM:=by
 intro T
 refine az aiP rfl rfl ?_
 intro _ _
 simp +contextual only [go_sem,aD,sevalprocAttr]
 (repeat' split)<;>(refine ak aG.rfl' ?_;refine cR ?_;simp only [rZ];grind)
def lP (c:Int):Bool:=(decide (97<=c) && decide (c<=122)) || decide (c=95)
def jC (c:Int):Bool:=decide (48<=c) && decide (c<=57)
def rP (c:Int)(M:aR):Ct Tryz.prog 65 [.int .u8 c] M [] [] (fun r _ _ _=>r=.bool (lP c)) aM:=by
 intro T
 refine az F65 rfl rfl ?_
 intro _ _
 simp +contextual only [go_sem,sevalprocAttr]
 refine ak aG.rfl' ?_
 simp [lP]
def oP (c:Int)(M:aR):Ct Tryz.prog 68 [.int .u8 c] M [] [] (fun r _ _ _=>r=.bool (jC c)) aM:=by
 intro T
 refine az F68 rfl rfl ?_
 intro _ _
 simp +contextual only [go_sem,sevalprocAttr]
 refine ak aG.rfl' ?_
 simp [jC]
def WZ (c:Int)(M:aR):Ct Tryz.prog 67 [.int .u8 c] M [] [] (fun r _ _ _=>r=.bool (lP c || jC c)) aM:=by
 intro T
 refine az F67 rfl rfl ?_
 intro _ _
 simp +contextual only [go_sem,sevalprocAttr]
 refine aF (rP c M T) ?_
 rintro v M' hM bj rfl
 simp +contextual only [go_sem,sevalprocAttr]
 split
 ·rename_i h
  exact ak aG.rfl' (by simp)
 ·rename_i h
  refine aF (oP c M' T) ?_
  rintro v M'' mG ut rfl
  simp +contextual only [go_sem,sevalprocAttr,h]
  exact ak aG.rfl' (by simp)
structure Tk where
 k:Int
 s:Bs
 at_:Int
def wQ (s:Bs):Bool:=decide (1<=s.length/\s.length<=16) && s.all fun c=>jC c.toNat
def gQ (t:Tk)(cs:List Value):Prop:=cs=[.int .i64 t.k,st t.s,.int .i64 t.at_]/\(t.k=2 ->wQ t.s=true)
theorem qM {t:Tk}{cs}(h:gQ t cs):cs.length=3:=by obtain ⟨rfl,_⟩:=h;rfl
def sf (e a:Int):List PanicEntry:=[{v:=.iface 74 (.agg #[.int .i64 e,.int .i64 a]),recovered:=false}]
theorem gU (e a:Int)(M:aR):Ct Tryz.prog 23 [.int .i64 e,.int .i64 a] M [] [] (fun _ _ _ _=>False) (fun ch _ _ _=>ch=sf e a):=by
 intro T
 refine az F23 rfl rfl ?_
 intro _ _
 simp +contextual only [go_sem,sevalprocAttr]
 exact ak aG.rfl' rfl
def pm (en:Int):List Tk ->Int | []=>en | t::_=>t.at_
def bH (s:Bs):List Tk ->Bool | []=>false | t::_=>decide (t.s=s) && (decide (t.k=1) || decide (t.k=4))
def aay {M:aR}{b o:Nat}{t:Tk}{cs}(h:gQ t cs)(ha:At M b o cs):aN M ⟨b,o,none⟩=some (.int .i64 t.k)/\aN M ⟨b,o+1,none⟩=some (st t.s)/\aN M ⟨b,o+2,none⟩=some (.int .i64 t.at_):=by
 obtain ⟨rfl,_⟩:=h
 exact ⟨ha.1,ha.2.1,ha.2.2.1⟩
def jH {M:aR}{aX:List Tk}{lv:Value}(h:RS M gQ 3 aX lv):
 (aX=[]/\∃ a c,lv=.slice a 0 c)\/∃ t r b o c,aX=t::r/\lv=.slice (some ⟨b,o,none⟩) (r.length+1) c/\r.length+1<=c/\
  aN M ⟨b,o,none⟩=some (.int .i64 t.k)/\aN M ⟨b,o+1,none⟩=some (st t.s)/\aN M ⟨b,o+2,none⟩=some (.int .i64 t.at_):=by
 obtain ⟨hb,a,c,rfl,cX,_,gl⟩:=ax (by decide) (fun _ _=>qM) h
 cases aX with
 | nil=>exact .inl ⟨rfl,a,c,rfl⟩
 | cons t r=>
  obtain ⟨b,o,cs,rfl,ha,hr⟩:=gl 0 t rfl
  have:=aay hr ha
  simp only [Nat.zero_mul,Nat.add_zero] at this
  exact .inr ⟨t,r,b,o,c,rfl,rfl,cX,this⟩
def UV {M:aR}{t:Tk}{r:List Tk}{lv:Value}(h:RS M gQ 3 (t::r) lv)(hk:t.k=2):wQ t.s=true:=by
 obtain ⟨_,xs,_,hl⟩:=h
 obtain ⟨cs,rest,_,h1,_⟩:=hl
 exact h1.2 hk
theorem K3 {M:aR}{pb:Nat}{aX:List Tk}{lv:Value}{en op:Int}(hl:RS M gQ 3 aX lv):
 Ct Tryz.prog 24 [.pointer (some ⟨pb,0,none⟩)] M (pL pb lv en op) [] (fun r M' L' R'=>r=.int .i64 (pm en aX)/\M'=M/\L'=pL pb lv en op/\R'=[]) aM:=by
 intro T
 refine az F24 rfl rfl ?_
 intro bj _
 simp only [aK] at bj
 rcases jH hl with ⟨rfl,a,c,rfl⟩ | ⟨t,r,b,o,c,rfl,rfl,hc,h0,h1,h2⟩
 ·simp +contextual only [go_sem,aD,sevalprocAttr,bj]
  exact aQ aG.rfl' rfl rfl ⟨rfl,rfl,rfl,rfl⟩
 ·simp +contextual only [go_sem,aD,sevalprocAttr,bj,h2]
  exact aQ aG.rfl' rfl rfl ⟨rfl,rfl,rfl,rfl⟩
def BH {M:aR}{pb:Nat}{aX:List Tk}{lv:Value}{en op:Int}(s:Bs)(hl:RS M gQ 3 aX lv):
 Ct Tryz.prog 73 [.pointer (some ⟨pb,0,none⟩),st s] M (pL pb lv en op) [] (fun r M' L' R'=>r=.bool (bH s aX)/\M'=M/\L'=pL pb lv en op/\R'=[]) aM:=by
 intro T
 refine az F73 rfl rfl ?_
 intro bj _
 simp only [aK] at bj
 rcases jH hl with ⟨rfl,a,c,rfl⟩ | ⟨t,r,b,o,c,rfl,rfl,hc,h0,h1,h2⟩
 ·simp +contextual only [go_sem,sevalprocAttr,bj]
  exact aQ aG.rfl' rfl rfl ⟨rfl,rfl,rfl,rfl⟩
 ·simp +contextual only [go_sem,sevalprocAttr,bj,h0,h1]
  refine aQ aG.rfl' rfl rfl ⟨?_,rfl,rfl,rfl⟩
  simp [bH]
def K4 {M:aR}{pb:Nat}{aX:List Tk}{lv:Value}{en op:Int}(s:Bs)(hl:RS M gQ 3 aX lv):
 Ct Tryz.prog 40 [.pointer (some ⟨pb,0,none⟩),st s] M (pL pb lv en op) [] (fun r M' L' R'=>r=.bool (bH s aX)/\M'=M/\R'=[]/\∃ lv',L'=pL pb lv' en op/\RS M gQ 3 (if bH s aX=true then aX.tail else aX) lv') aM:=by
 intro T
 refine az F40 rfl rfl ?_
 intro bj _
 simp +contextual only [go_sem,sevalprocAttr]
 refine gO [] (pL pb lv en op) [] [] [] [] (BH s hl T) ?_ (fun _ _ _ _ _ _ _ _ h=>h.elim)
 rintro v M' L' R' hM _ _ ut ⟨rfl,rfl,rfl,rfl⟩
 simp only [aK] at bj
 by_cases hs:bH s aX=true
 ·rcases jH hl with ⟨rfl,a,c,rfl⟩ | ⟨t,r,b,o,c,rfl,rfl,hc,h0,h1,h2⟩
  ·cases hs
  ·have Lt:(1:Int)<=((r.length+1:Nat):Int)/\r.length+1<=c:=⟨by omega,hc⟩
   simp +contextual only [go_sem,aD,sevalprocAttr,bj,hs,Lt]
   refine aQ aG.rfl' rfl rfl ?_
   refine ⟨rfl,rfl,rfl,_,rfl,?_⟩
   have:=lY (k:=1) (by decide) (fun _ _=>qM) hl (by simp)
   simpa using this
 ·simp +contextual only [go_sem,aD,sevalprocAttr,hs]
  exact aQ aG.rfl' rfl rfl ⟨rfl,rfl,rfl,_,rfl,hl⟩
inductive Rs (α:Type) where
 | ok (a:α) (r:List Tk)
 | err (e a:Int)
 | out
def fR {α:Type}(pb:Nat)(en op:Int)(enc:α ->Value ->aR ->Prop)(res:Rs α):ep:=fun v M' L' R'=>∃ a r lv',res=.ok a r/\L'=pL pb lv' en op/\RS M' gQ 3 r lv'/\R'=[]/\enc a v M'
def gN {α:Type}(pb:Nat)(en:Int)(res:Rs α):mC:=fun ch _ L' R'=>∃ e a lv' op',res=.err e a/\ch=sf e a/\L'=pL pb lv' en op'/\R'=[]
def cj (en:Int):List Bs ->List Tk ->Rs Unit
 | [],t=> .ok () t
 | s::l,t=>if bH s t=true then cj en l t.tail else .err 2 (pm en t)
theorem gS {N M R}{k:Sh ->Prop}{Lp:LL}:∀ (L1:LL),cq ⟨N,M,Lp,R⟩ k ->cq ⟨N,M,L1++Lp,R⟩ k
 | [],h=>h
 | (_,_)::L1,h=>al (gS L1 h)
section
variable {α:Type} {T N:Tm} {M:aR} {R:RR} {dr:List (Nat×Sched)} {ts:List ResultVar} {post:ep} {pb:Nat} {lv0 lv:Value} {en op0 op:Int} {d:Option Nat} {s:List Vc.Item} {e:dx} {aX:List Tk} {F:Fi} {ds:List Deferred} {L1 L2:LL}
theorem Md {res:Rs α}{c a:Int}(L1:LL)(hT:aG T N)(h:res=.err c a):(fi Tryz.prog T dr ts (aV (pL pb lv0 en op0)) 0 post (gN pb en res)).pan (sf c a) e [] ⟨N,M,L1++pL pb lv en op,R⟩:=by
 rw [l9,j5]
 exact gS L1 (bY (aQ hT rfl rfl ⟨c,a,lv,op,h,rfl,rfl,rfl⟩))
def fI {res:Rs α}{c a:Int}(L1:LL)(hT:aG T N)(h:res=.err c a):dp Tryz.prog (fi Tryz.prog T dr ts (aV (pL pb lv0 en op0)) 0 post (gN pb en res)) 23 [.int .i64 c,.int .i64 a] d s e [] ⟨N,M,L1++pL pb lv en op,R⟩ ⟨⟩:=by
 refine bX (gU c a M N) (fun _ _ _ _ h=>h.elim) ?_
 rintro ch M4 dz de rfl
 exact Md L1 hT h
def l4 (L1:LL)(hl:RS M gQ 3 aX lv)(k:cA Tryz.prog F s (cI e d (.int .i64 (pm en aX))) ds ⟨N,M,L1++pL pb lv en op,R⟩ ⟨⟩):
 dp Tryz.prog F 24 [.pointer (some ⟨pb,0,none⟩)] d s e ds ⟨N,M,L1++pL pb lv en op,R⟩ ⟨⟩:=by
 refine dF L1 (K3 hl N) (fun v M' L' _ _ bj h=> ?_) (fun _ _ _ _ _ _ h=>h.elim)
 obtain ⟨rfl,rfl,rfl, -⟩:=h
 exact k
def ac9 (L1:LL)(x:Bs)(hl:RS M gQ 3 aX lv)(k:cA Tryz.prog F s (cI e d (.bool (bH x aX))) ds ⟨N,M,L1++pL pb lv en op,R⟩ ⟨⟩):
 dp Tryz.prog F 73 [.pointer (some ⟨pb,0,none⟩),.string (bs x)] d s e ds ⟨N,M,L1++pL pb lv en op,R⟩ ⟨⟩:=by
 refine dF L1 (BH x hl N) (fun v M' L' _ _ bj h=> ?_) (fun _ _ _ _ _ _ h=>h.elim)
 obtain ⟨rfl,rfl,rfl, -⟩:=h
 exact k
def Gh (L1:LL)(x:Bs)(hl:RS M gQ 3 aX lv)(k:∀ lv',RS M gQ 3 (if bH x aX=true then aX.tail else aX) lv' ->cA Tryz.prog F s (cI e d (.bool (bH x aX))) ds ⟨N,M,L1++pL pb lv' en op,R⟩ ⟨⟩):
 dp Tryz.prog F 40 [.pointer (some ⟨pb,0,none⟩),.string (bs x)] d s e ds ⟨N,M,L1++pL pb lv en op,R⟩ ⟨⟩:=by
 refine dF L1 (K4 x hl N) (fun v M' L' _ _ bj h=> ?_) (fun _ _ _ _ _ _ h=>h.elim)
 obtain ⟨rfl,rfl, -,lv',rfl,jL⟩:=h
 exact k lv' jL
def iS (L1:LL)(x:Bs)(hl:RS M gQ 3 aX lv)(k1:bH x aX=true ->∀ lv',RS M gQ 3 aX.tail lv' ->cA Tryz.prog F s (cI e d (.bool true)) ds ⟨N,M,L1++pL pb lv' en op,R⟩ ⟨⟩)
 (k2:bH x aX=false ->∀ lv',RS M gQ 3 aX lv' ->cA Tryz.prog F s (cI e d (.bool false)) ds ⟨N,M,L1++pL pb lv' en op,R⟩ ⟨⟩):
 dp Tryz.prog F 40 [.pointer (some ⟨pb,0,none⟩),.string (bs x)] d s e ds ⟨N,M,L1++pL pb lv en op,R⟩ ⟨⟩:=by
 refine Gh L1 x hl fun lv' jL=> ?_
 cases hs:bH x aX with
 | true=>exact k1 hs lv' (by simpa [hs] using jL)
 | false=>exact k2 hs lv' (by simpa [hs] using jL)
def td {f:FuncId}{args:List Value}{enc:α ->Value ->aR ->Prop}{res:Rs α}(L1:LL)(hc:bU Tryz.prog f args N M (pL pb lv en op) [] (fR pb en op enc res) (gN pb en res))
 (k:∀ v M' a r lv',bm M M' ->aJ M' (L1++pL pb lv' en op) ->res=.ok a r ->RS M' gQ 3 r lv' ->enc a v M' ->cA Tryz.prog F s (cI e d v) ds ⟨N,M',L1++pL pb lv' en op,R⟩ ⟨⟩)
 (kp:∀ c a M' lv' op',bm M M' ->res=.err c a ->F.pan (sf c a) e ds ⟨N,M',L1++pL pb lv' en op',R⟩):
 dp Tryz.prog F f args d s e ds ⟨N,M,L1++pL pb lv en op,R⟩ ⟨⟩:=by
 refine dF L1 hc (fun v M' L' hM _ bj h=> ?_) (fun ch M' L' hM _ bj h=> ?_)
 ·obtain ⟨a,r,lv',am,rfl,hr, -,he⟩:=h
  exact k v M' a r lv' hM bj am hr he
 ·obtain ⟨c,a,lv',op',am,rfl,rfl, -⟩:=h
  exact kp c a M' lv' op' hM am
end
def vp {M:aR}{pb:Nat}{aX:List Tk}{lv sv:Value}{en op:Int}{l:List Bs}(hl:RS M gQ 3 aX lv)(hs:RS M rC 1 l sv):
 Ct Tryz.prog 26 [.pointer (some ⟨pb,0,none⟩),sv] M (pL pb lv en op) [] (fR pb en op (fun _ v _=>v=.tuple #[]) (cj en l aX)) (gN pb en (cj en l aX)):=by
 intro T
 obtain ⟨hb,a,c,rfl,cX,_,gl⟩:=ax (by decide) (fun _ _=>fu) hs
 refine az F26 rfl rfl ?_
 intro bj _
 simp +contextual only [go_sem,aD,sevalprocAttr]
 refine aO l.length 8 [(0,.pointer (some ⟨pb,0,none⟩)),(6,.slice a l.length c),(7,.int .i64 l.length)] (fun i e h=>∃ M' toks' lv',bm M M'/\h=⟨T,M',pL pb lv' en op,[]⟩/\M' pb=none/\RS M' gQ 3 toks' lv'/\cj en l aX=cj en (l.drop i) toks') 0 (by omega) (by simp only [aE,go_sem,sevalprocAttr]) (by simp only [go_sem,sevalprocAttr]) ⟨M,aX,lv,bm.rfl',rfl,by simpa only [aK] using bj,hl,by simp⟩ ?_
 rintro i e h hi aI ht ⟨M',toks',lv',hM,rfl,ut,jL,am⟩
 simp only [aE] at aI
 by_cases aL:i<l.length
 ·obtain ⟨b,o,cs,rfl,bP,cH⟩:=gl i l[i] (gq aL)
  unfold rC at cH;subst cH
  have hx:=ay hM bP.1
  rw [Nat.mul_one] at hx
  simp +contextual only [go_sem,aD,sevalprocAttr,aI,ht,aL,hx]
  refine gO [] (pL pb lv' en op) [] [] [] [] (K4 l[i] jL T) ?_ (fun _ _ _ _ _ _ _ _ h=>h.elim)
  rintro v M'' L' R' mG _ _ ZG ⟨rfl,rfl,rfl,lv'',rfl,abY⟩
  have bK:l.drop i=l[i]::l.drop (i+1):=dq aL
  rw [bK] at am
  by_cases hs:bH l[i] toks'=true
  ·simp +contextual only [go_sem,aD,sevalprocAttr,ht,hs]
   refine bT aL ?_ ?_ ⟨M'',toks'.tail,lv'',hM,rfl,ut,by simpa [hs] using abY,by simpa [cj,hs] using am⟩
   ·simp only [aE,aI,go_sem,sevalprocAttr]
   ·simp only [go_sem,sevalprocAttr,aA i (by omega)]
  ·simp +contextual only [go_sem,aD,sevalprocAttr,aI,hs]
   simp only [hs] at abY
   refine gO [] (pL pb lv'' en op) [] [] [] [] (K3 abY T) ?_ (fun _ _ _ _ _ _ _ _ h=>h.elim)
   rintro v M3 L' R' bG _ _ bC ⟨rfl,rfl,rfl,rfl⟩
   simp +contextual only [go_sem,sevalprocAttr,hs]
   refine fI [] aG.rfl' ?_
   rw [am]
   simp [cj,hs]
 ·have:i=l.length:=by omega
  subst this
  simp +contextual only [go_sem,aD,sevalprocAttr,aI,ht,aL]
  refine aQ aG.rfl' rfl rfl ⟨(),toks',lv',?_,rfl,jL,rfl,rfl⟩
  rw [am]
  simp [cj]
def zD (x:Bs):List Bs ->Int
 | []=> -1
 | s::l=>if s=x then 0 else if zD x l<0 then -1 else zD x l+1
def oX (x:Bs)(l:List Bs)(i:Nat):Int:=if zD x (l.drop i)<0 then -1 else zD x (l.drop i)+i
def Q8 {M:aR}{l:List Bs}{sv:Value}(x:Bs)(hs:RS M rC 1 l sv):
 Ct Tryz.prog 182 [sv,st x] M [] [] (fun r _ _ _=>r=.int .i64 (oX x l 0)) aM:=by
 intro T
 obtain ⟨hb,a,c,rfl,cX,_,gl⟩:=ax (by decide) (fun _ _=>fu) hs
 refine az aiJ rfl rfl ?_
 intro bj _
 simp +contextual only [go_sem,aD,sevalprocAttr]
 refine aO l.length 8 [(0,.slice a l.length c),(1,st x),(6,.slice a l.length c),(7,.int .i64 l.length)] (fun i e h=>h=⟨T,M,[],[]⟩/\oX x l 0=oX x l i) 0 (by omega) (by simp only [aE,go_sem,sevalprocAttr]) (by simp only [go_sem,sevalprocAttr]) ⟨rfl,rfl⟩ ?_
 rintro i e h hi aI ht ⟨rfl,am⟩
 simp only [aE,st] at aI
 by_cases aL:i<l.length
 ·obtain ⟨b,o,cs,rfl,bP,cH⟩:=gl i l[i] (gq aL)
  unfold rC at cH;subst cH
  have hx:=bP.1
  rw [Nat.mul_one] at hx
  have bK:l.drop i=l[i]::l.drop (i+1):=dq aL
  simp +contextual only [go_sem,aD,sevalprocAttr,aI,ht,aL,hx]
  split
  ·rename_i he
   refine ak aG.rfl' ?_
   rw [he] at am
   rw [am]
   unfold oX
   rw [bK]
   simp only [zD,if_true]
   simp
  ·rename_i he
   refine bT aL ?_ ?_ ⟨rfl,?_⟩
   ·simp only [aE,aI,go_sem,sevalprocAttr]
   ·simp only [go_sem,sevalprocAttr,aA i (by omega)]
   ·rw [am]
    simp only [oX,bK,zD,if_neg (Ne.symm he)]
    split<;>split<;>omega
 ·have:i=l.length:=by omega
  subst this
  simp +contextual only [go_sem,aD,sevalprocAttr,aI,ht,aL]
  refine ak aG.rfl' ?_
  rw [am]
  simp [oX,zD]
def S8 (x:Bs)(l:List Bs):(0<=zD x l) ↔ x∈l:=by
 induction l with
 | nil=>simp [zD]
 | cons s l ih=>
  simp only [zD,List.mem_cons]
  split
  ·rename_i h;simp [h]
  ·rename_i h
   have hx:x≠s:=fun he=>h he.symm
   rw [show (x=s\/x∈l) ↔ x∈l from by simp [hx],<- ih]
   split<;>omega
def pS {M:aR}{l:List Bs}{sv:Value}(x:Bs)(hs:RS M rC 1 l sv):
 Ct Tryz.prog 117 [sv,st x] M [] [] (fun r _ _ _=>r=.bool (l.contains x)) aM:=by
 intro T
 refine az adY rfl rfl ?_
 intro bj _
 simp +contextual only [go_sem,sevalprocAttr]
 refine aF (Q8 x hs T) ?_
 rintro v M' hM bj rfl
 simp +contextual only [go_sem,sevalprocAttr]
 refine ak aG.rfl' ?_
 simp only [oX,List.drop_zero]
 have:=S8 x l
 by_cases hm:x∈l
 ·have h0:=this.2 hm
  rw [if_neg (by omega)]
  simp [hm,h0]
 ·have h0:¬ 0<=zD x l:=fun h=>hm (this.1 h)
  rw [if_pos (by omega)]
  simp [hm]
end Go.Proofs.YtcpjbohndglclaaGreatDoor
namespace Go.Proofs
open Go.Shelf
def Tryz.lays137_ren:Go.Shelf.Ren:=⟨fun | 137=>38 | 217=>64 | 266=>114 | n=>n,fun | 9=>9 | 5=>5 | 3=>3 | n=>n,fun | n=>n⟩
def Tryz.lays137:Go.Proofs.Lays.n137 Tryz.prog Tryz.lays137_ren:={
 mixed:=by kernel_rfl
 f137:=Tryz.func38.trans (congrArg some (by kernel_rfl))
 f217:=Tryz.func64.trans (congrArg some (by kernel_rfl))
 f266:=Tryz.func114.trans (congrArg some (by kernel_rfl))
 t3:=Tryz.underlying3
 a3:=Tryz.isAgg3
 z3:=Tryz.sizeOf3
 v3:=Tryz.zeroValue3
 t5:=Tryz.underlying5
 a5:=Tryz.isAgg5
 z5:=Tryz.sizeOf5
 v5:=Tryz.zeroValue5
 t9:=Tryz.underlying9
 a9:=Tryz.isAgg9
 z9:=Tryz.sizeOf9
 v9:=Tryz.zeroValue9}
open Go.RowKit in
theorem Tryz.strings_IndexByte (s:ByteArray)(c:Int)(w:World):
 Calls Tryz.prog 38 #[.string s,.int .u8 c] w fun e w'=>e=.returned (.int .i64 (Lib.indexByte s.data.toList c.toNat.toUInt8))/\w'=w:=Any.strings_IndexByte Tryz.lays137 s c w
def Tryz.laysC174_ren:Go.Shelf.Ren:=⟨fun | 174=>123 | 247=>184 | 245=>185 | 287=>223 | 279=>224 | 280=>225 | 281=>226 | 282=>227 | 321=>252 | 322=>253 | 316=>254 | 171=>198 | 205=>255 | 243=>230 | 246=>256 | 283=>287 | 284=>288 | 285=>289 | 286=>290 | 129=>310 | 317=>309 | 318=>311 | 319=>312 | 320=>313 | 337=>328 | 338=>329 | n=>n,fun | 9=>9 | 3=>3 | 2=>2 | 75=>149 | 85=>220 | 4=>4 | 167=>328 | 5=>5 | 53=>329 | 175=>330 | 46=>332 | 168=>333 | 37=>145 | 0=>0 | 210=>358 | 21=>21 | 127=>210 | 145=>396 | 143=>394 | 171=>397 | 173=>400 | 212=>419 | 51=>352 | 20=>20 | 213=>420 | 232=>443 | 233=>444 | 80=>105 | n=>n,fun | 15=>3 | 16=>4 | 17=>5 | 18=>6 | 19=>7 | n=>n⟩
def Tryz.laysC174:Go.Proofs.LaysC.n174 Tryz.prog Tryz.laysC174_ren:={
 mixed:=by kernel_rfl
 f129:=Tryz.func310.trans (congrArg some (by kernel_rfl))
 f171:=Tryz.func198.trans (congrArg some (by kernel_rfl))
 f174:=Tryz.func123.trans (congrArg some (by kernel_rfl))
 f205:=Tryz.func255.trans (congrArg some (by kernel_rfl))
 f243:=Tryz.func230.trans (congrArg some (by kernel_rfl))
 f245:=Tryz.func185.trans (congrArg some (by kernel_rfl))
 f246:=Tryz.func256.trans (congrArg some (by kernel_rfl))
 f247:=Tryz.func184.trans (congrArg some (by kernel_rfl))
 f279:=Tryz.func224.trans (congrArg some (by kernel_rfl))
 f280:=Tryz.func225.trans (congrArg some (by kernel_rfl))
 f281:=Tryz.func226.trans (congrArg some (by kernel_rfl))
 f282:=Tryz.func227.trans (congrArg some (by kernel_rfl))
 f283:=Tryz.func287.trans (congrArg some (by kernel_rfl))
 f284:=Tryz.func288.trans (congrArg some (by kernel_rfl))
 f285:=Tryz.func289.trans (congrArg some (by kernel_rfl))
 f286:=Tryz.func290.trans (congrArg some (by kernel_rfl))
 f287:=Tryz.func223.trans (congrArg some (by kernel_rfl))
 f316:=Tryz.func254.trans (congrArg some (by kernel_rfl))
 f317:=Tryz.func309.trans (congrArg some (by kernel_rfl))
 f318:=Tryz.func311.trans (congrArg some (by kernel_rfl))
 f319:=Tryz.func312.trans (congrArg some (by kernel_rfl))
 f320:=Tryz.func313.trans (congrArg some (by kernel_rfl))
 f321:=Tryz.func252.trans (congrArg some (by kernel_rfl))
 f322:=Tryz.func253.trans (congrArg some (by kernel_rfl))
 f337:=Tryz.func328.trans (congrArg some (by kernel_rfl))
 f338:=Tryz.func329.trans (congrArg some (by kernel_rfl))
 t0:=Tryz.underlying0
 a0:=Tryz.isAgg0
 z0:=Tryz.sizeOf0
 v0:=Tryz.zeroValue0
 t2:=Tryz.underlying2
 a2:=Tryz.isAgg2
 z2:=Tryz.sizeOf2
 v2:=Tryz.zeroValue2
 t3:=Tryz.underlying3
 a3:=Tryz.isAgg3
 z3:=Tryz.sizeOf3
 v3:=Tryz.zeroValue3
 t4:=Tryz.underlying4
 a4:=Tryz.isAgg4
 z4:=Tryz.sizeOf4
 v4:=Tryz.zeroValue4
 t5:=Tryz.underlying5
 a5:=Tryz.isAgg5
 z5:=Tryz.sizeOf5
 v5:=Tryz.zeroValue5
 t9:=Tryz.underlying9
 a9:=Tryz.isAgg9
 z9:=Tryz.sizeOf9
 v9:=Tryz.zeroValue9
 t20:=Tryz.underlying20
 a20:=Tryz.isAgg20
 z20:=Tryz.sizeOf20
 v20:=Tryz.zeroValue20
 t21:=Tryz.underlying21
 a21:=Tryz.isAgg21
 z21:=Tryz.sizeOf21
 v21:=Tryz.zeroValue21
 t37:=Tryz.underlying145
 a37:=Tryz.isAgg145
 z37:=Tryz.sizeOf145
 v37:=Tryz.zeroValue145
 t46:=Tryz.underlying332
 a46:=Tryz.isAgg332
 z46:=Tryz.sizeOf332
 v46:=Tryz.zeroValue332
 t51:=Tryz.underlying352
 a51:=Tryz.isAgg352
 z51:=Tryz.sizeOf352
 v51:=Tryz.zeroValue352
 t53:=Tryz.underlying329
 a53:=Tryz.isAgg329
 z53:=Tryz.sizeOf329
 v53:=Tryz.zeroValue329
 t75:=Tryz.underlying149
 a75:=Tryz.isAgg149
 z75:=Tryz.sizeOf149
 v75:=Tryz.zeroValue149
 t85:=Tryz.underlying220
 a85:=Tryz.isAgg220
 z85:=Tryz.sizeOf220
 v85:=Tryz.zeroValue220
 t127:=Tryz.underlying210
 a127:=Tryz.isAgg210
 z127:=Tryz.sizeOf210
 v127:=Tryz.zeroValue210
 t143:=Tryz.underlying394
 a143:=Tryz.isAgg394
 z143:=Tryz.sizeOf394
 v143:=Tryz.zeroValue394
 t145:=Tryz.underlying396
 a145:=Tryz.isAgg396
 z145:=Tryz.sizeOf396
 v145:=Tryz.zeroValue396
 t167:=Tryz.underlying328
 a167:=Tryz.isAgg328
 z167:=Tryz.sizeOf328
 v167:=Tryz.zeroValue328
 t168:=Tryz.underlying333
 a168:=Tryz.isAgg333
 z168:=Tryz.sizeOf333
 v168:=Tryz.zeroValue333
 t171:=Tryz.underlying397
 a171:=Tryz.isAgg397
 z171:=Tryz.sizeOf397
 v171:=Tryz.zeroValue397
 t173:=Tryz.underlying400
 a173:=Tryz.isAgg400
 z173:=Tryz.sizeOf400
 v173:=Tryz.zeroValue400
 t175:=Tryz.underlying330
 a175:=Tryz.isAgg330
 z175:=Tryz.sizeOf330
 v175:=Tryz.zeroValue330
 t210:=Tryz.underlying358
 a210:=Tryz.isAgg358
 z210:=Tryz.sizeOf358
 v210:=Tryz.zeroValue358
 t212:=Tryz.underlying419
 a212:=Tryz.isAgg419
 z212:=Tryz.sizeOf419
 v212:=Tryz.zeroValue419
 t213:=Tryz.underlying420
 a213:=Tryz.isAgg420
 z213:=Tryz.sizeOf420
 t232:=Tryz.underlying443
 a232:=Tryz.isAgg443
 z232:=Tryz.sizeOf443
 v232:=Tryz.zeroValue443
 t233:=Tryz.underlying444
 a233:=Tryz.isAgg444
 z233:=Tryz.sizeOf444
 v233:=Tryz.zeroValue444
 g15:=by kernel_rfl
 g16:=by kernel_rfl
 g17:=by kernel_rfl
 g18:=by kernel_rfl
 g19:=by kernel_rfl
 t80:=Tryz.underlying105
 a80:=Tryz.isAgg105
 z80:=Tryz.sizeOf105
 v80:=Tryz.zeroValue105
 i0:=by kernel_rfl
 i2:=by kernel_rfl
 i3:=by kernel_rfl
 i4:=by kernel_rfl
 i5:=by kernel_rfl
 i9:=by kernel_rfl
 i20:=by kernel_rfl
 i21:=by kernel_rfl
 i37:=by kernel_rfl
 i46:=by kernel_rfl
 i51:=by kernel_rfl
 i53:=by kernel_rfl
 i75:=by kernel_rfl
 i80:=by kernel_rfl
 i85:=by kernel_rfl
 i127:=by kernel_rfl
 i143:=by kernel_rfl
 i145:=by kernel_rfl
 i167:=by kernel_rfl
 i168:=by kernel_rfl
 i171:=by kernel_rfl
 i173:=by kernel_rfl
 i175:=by kernel_rfl
 i210:=by kernel_rfl
 i212:=by kernel_rfl
 i232:=by kernel_rfl
 i233:=by kernel_rfl
 m15:=by kernel_rfl
 m16:=by kernel_rfl
 m17:=by kernel_rfl
 m18:=by kernel_rfl
 m19:=by kernel_rfl
 c0:=by kernel_rfl
 c2:=by kernel_rfl
 c3:=by kernel_rfl
 c4:=by kernel_rfl
 c5:=by kernel_rfl
 c9:=by kernel_rfl
 c20:=by kernel_rfl
 c21:=by kernel_rfl
 c37:=by kernel_rfl
 c46:=by kernel_rfl
 c51:=by kernel_rfl
 c53:=by kernel_rfl
 c75:=by kernel_rfl
 c80:=by kernel_rfl
 c85:=by kernel_rfl
 c127:=by kernel_rfl
 c143:=by kernel_rfl
 c145:=by kernel_rfl
 c167:=by kernel_rfl
 c168:=by kernel_rfl
 c171:=by kernel_rfl
 c173:=by kernel_rfl
 c175:=by kernel_rfl
 c210:=by kernel_rfl
 c212:=by kernel_rfl
 c213:=by kernel_rfl
 c232:=by kernel_rfl
 c233:=by kernel_rfl}
open Go.RowKit in
theorem Tryz.strconv_ParseInt_10_at64_ok (s:ByteArray)(ale:s.size<=9223372036854775806)(v:Int)(h:Lib.parseIntB 64 s.data.toList=.ok v)(w:World):
 Calls Tryz.prog 123 #[.string s,.int .i64 10,.int .i64 64] w fun e w'=>e=.returned (.tuple #[.int .i64 v,.nilIface])/\(w'=w\/∃ t,w'=Lib.bytesWorld w 5 t):=Any.strconv_ParseInt_10_at64_ok Tryz.laysC174 s ale v h w
def Tryz.lays157_ren:Go.Shelf.Ren:=⟨fun | 157=>183 | 229=>221 | 199=>222 | 261=>251 | 311=>285 | 312=>286 | n=>n,fun | 9=>9 | 31=>62 | 3=>3 | 5=>5 | 4=>4 | 119=>325 | 0=>0 | 40=>327 | 152=>349 | 21=>21 | 154=>351 | 51=>352 | 141=>354 | 196=>386 | 193=>383 | 198=>389 | 49=>387 | 194=>384 | 201=>392 | 226=>416 | 46=>332 | 227=>417 | n=>n,fun | 0=>1 | 6=>2 | n=>n⟩
def Tryz.lays157:Go.Proofs.Lays.n157 Tryz.prog Tryz.lays157_ren:={
 mixed:=by kernel_rfl
 f157:=Tryz.func183.trans (congrArg some (by kernel_rfl))
 f199:=Tryz.func222.trans (congrArg some (by kernel_rfl))
 f229:=Tryz.func221.trans (congrArg some (by kernel_rfl))
 f261:=Tryz.func251.trans (congrArg some (by kernel_rfl))
 f311:=Tryz.func285.trans (congrArg some (by kernel_rfl))
 f312:=Tryz.func286.trans (congrArg some (by kernel_rfl))
 t0:=Tryz.underlying0
 a0:=Tryz.isAgg0
 z0:=Tryz.sizeOf0
 v0:=Tryz.zeroValue0
 t3:=Tryz.underlying3
 a3:=Tryz.isAgg3
 z3:=Tryz.sizeOf3
 v3:=Tryz.zeroValue3
 t4:=Tryz.underlying4
 a4:=Tryz.isAgg4
 z4:=Tryz.sizeOf4
 v4:=Tryz.zeroValue4
 t5:=Tryz.underlying5
 a5:=Tryz.isAgg5
 z5:=Tryz.sizeOf5
 v5:=Tryz.zeroValue5
 t9:=Tryz.underlying9
 a9:=Tryz.isAgg9
 z9:=Tryz.sizeOf9
 v9:=Tryz.zeroValue9
 t21:=Tryz.underlying21
 a21:=Tryz.isAgg21
 z21:=Tryz.sizeOf21
 v21:=Tryz.zeroValue21
 t31:=Tryz.underlying62
 a31:=Tryz.isAgg62
 z31:=Tryz.sizeOf62
 v31:=Tryz.zeroValue62
 t40:=Tryz.underlying327
 a40:=Tryz.isAgg327
 z40:=Tryz.sizeOf327
 v40:=Tryz.zeroValue327
 t46:=Tryz.underlying332
 a46:=Tryz.isAgg332
 z46:=Tryz.sizeOf332
 v46:=Tryz.zeroValue332
 t49:=Tryz.underlying387
 a49:=Tryz.isAgg387
 z49:=Tryz.sizeOf387
 v49:=Tryz.zeroValue387
 t51:=Tryz.underlying352
 a51:=Tryz.isAgg352
 z51:=Tryz.sizeOf352
 v51:=Tryz.zeroValue352
 t119:=Tryz.underlying325
 a119:=Tryz.isAgg325
 z119:=Tryz.sizeOf325
 t141:=Tryz.underlying354
 a141:=Tryz.isAgg354
 z141:=Tryz.sizeOf354
 v141:=Tryz.zeroValue354
 t152:=Tryz.underlying349
 a152:=Tryz.isAgg349
 z152:=Tryz.sizeOf349
 v152:=Tryz.zeroValue349
 t154:=Tryz.underlying351
 a154:=Tryz.isAgg351
 z154:=Tryz.sizeOf351
 v154:=Tryz.zeroValue351
 t193:=Tryz.underlying383
 a193:=Tryz.isAgg383
 z193:=Tryz.sizeOf383
 v193:=Tryz.zeroValue383
 t194:=Tryz.underlying384
 a194:=Tryz.isAgg384
 z194:=Tryz.sizeOf384
 v194:=Tryz.zeroValue384
 t196:=Tryz.underlying386
 a196:=Tryz.isAgg386
 z196:=Tryz.sizeOf386
 v196:=Tryz.zeroValue386
 t198:=Tryz.underlying389
 a198:=Tryz.isAgg389
 z198:=Tryz.sizeOf389
 v198:=Tryz.zeroValue389
 t201:=Tryz.underlying392
 a201:=Tryz.isAgg392
 z201:=Tryz.sizeOf392
 v201:=Tryz.zeroValue392
 t226:=Tryz.underlying416
 a226:=Tryz.isAgg416
 z226:=Tryz.sizeOf416
 v226:=Tryz.zeroValue416
 t227:=Tryz.underlying417
 a227:=Tryz.isAgg417
 z227:=Tryz.sizeOf417
 v227:=Tryz.zeroValue417
 g0:=by kernel_rfl
 g6:=by kernel_rfl}
open Go.RowKit Go.Lib in
theorem Tryz.strings_Fields (s:ByteArray)(w:World)(hs:s.size<4294967281)(abr:∀ (j:Nat) b,s.data.toList[j]?=some b ->b.toNat<128)(alP:Lib.TabIs Tryz.prog w "strings.asciiSpace" .u8 Lib.asciiSpaceTab):
 Calls Tryz.prog 183 #[.string s] w fun e w'=>
  e=.returned (.slice (some ⟨w.heap.size,0,none⟩) (Lib.fields s.data.toList).length (Lib.fields s.data.toList).length)/\w'=w.alloc (.cells ((Lib.fields s.data.toList).map fun l=>Value.string ⟨l.toArray⟩).toArray 9):=Any.strings_Fields Tryz.lays157 (by kernel_rfl) (by kernel_rfl) s w hs abr alP
end Go.Proofs
namespace Go.Proofs.YtcpjbohndglclaaGreatDoor
open Go Vc
set_option maxRecDepth 10000
def AM:List Bs:=[[99,114,101,97,116,101],
 [116,97,98,108,101],
 [118,105,101,119],
 [97,115],
 [105,110,115,101,114,116],
 [105,110,116,111],
 [118,97,108,117,101,115],
 [100,101,108,101,116,101],
 [102,114,111,109],
 [119,104,101,114,101],
 [115,104,111,119],
 [115,101,108,101,99,116],
 [100,105,115,116,105,110,99,116],
 [103,114,111,117,112],
 [98,121],
 [104,97,118,105,110,103],
 [117,110,105,111,110],
 [97,108,108],
 [101,120,99,101,112,116],
 [111,114,100,101,114],
 [108,105,109,105,116],
 [106,111,105,110],
 [108,101,102,116],
 [115,101,109,105],
 [97,110,116,105],
 [111,110],
 [97,110,100],
 [111,114],
 [110,111,116],
 [105,115],
 [110,117,108,108],
 [116,114,117,101],
 [102,97,108,115,101],
 [99,97,115,101],
 [119,104,101,110],
 [116,104,101,110],
 [101,108,115,101],
 [101,110,100],
 [99,111,97,108,101,115,99,101],
 [99,111,117,110,116],
 [115,117,109],
 [109,105,110],
 [109,97,120],
 [105,110,116],
 [116,101,120,116],
 [98,111,111,108]]
def eS (M:aR):Prop:=∀ g,Tryz.prog.globalNamed "strings.asciiSpace"=some g ->M g=some (Lib.asciiSpaceTab.map fun z=>Value.int .u8 z)
theorem eS.ext {M M':aR}(h:eS M)(he:bm M M'):eS M':=fun g hg=>he _ _ (h g hg)
def eS.tab {M:aR}{w:World}(h:eS M)(hw:pF M w):Lib.TabIs Tryz.prog w "strings.asciiSpace" .u8 Lib.asciiSpaceTab:=by
 unfold Lib.TabIs World.var?
 cases hg:Tryz.prog.globalNamed "strings.asciiSpace" with
 | none=>
  have h2:(Tryz.prog.globalNamed "strings.asciiSpace").isSome=true:=by kernel_rfl
  rw [hg] at h2;cases h2
 | some g=>
  obtain ⟨t,f,c',ht,hp⟩:=hw g _ (h g hg)
  have hc:c'=[]:=by
   rcases hp with hp | ⟨v,r,hp,hv⟩
   ·exact hp
   ·have h2:=congrArg List.head? hp
    rw [List.head?_map] at h2
    cases h3:Lib.asciiSpaceTab.head? with
    | none=>rw [h3] at h2;simp at h2
    | some z=>rw [h3] at h2;simp at h2;exact absurd h2.symm (hv _ _)
  subst hc
  simp [ht]
def NA {M:aR}(hg:eS M)(s:Bs)(hs:s.length<4294967281)(ha:s.all (fun b=>b.toNat<128)=true):
 Ct Tryz.prog 183 [st s] M [] [] (fun r M' _ _=>∃ b,r=.slice (some ⟨b,0,none⟩) (Lib.fields s).length (Lib.fields s).length/\M' b=some ((Lib.fields s).map st)) aM:=by
 refine Rf (t:=9) (cs:=(Lib.fields s).map st) (fun b=> .slice (some ⟨b,0,none⟩) (Lib.fields s).length (Lib.fields s).length) aiK.bd fun w hw=> ?_
 have ha':∀ (j:Nat) b,(bs s).data.toList[j]?=some b ->b.toNat<128:=fun j b hj=>by
  have:=List.all_eq_true.1 ha b (List.mem_of_getElem? (by simpa [bs] using hj))
  simpa using this
 have h2:=Tryz.strings_Fields (bs s) w (by rw [Do];exact hs) ha' (hg.tab hw)
 have hd:(bs s).data.toList=s:=by simp [bs]
 rw [hd] at h2
 exact h2
def DC {M:aR}(hg:eS M):Ct Tryz.prog 118 [] M [] [] (fun r M' _ _=>RS M' rC 1 AM r) aM:=by
 intro T
 refine az ah3 rfl rfl ?_
 intro bj _
 simp +contextual only [go_sem,sevalprocAttr]
 refine aF (NA hg _ (by decide) (by kernel_rfl) T) ?_
 rintro v M' hM _ ⟨b,rfl,hb⟩
 simp +contextual only [go_sem,sevalprocAttr]
 refine ak aG.rfl' ?_
 have hw:∀ {s:Bs},Lib.fields s=AM ->M' b=some ((Lib.fields s).map st) ->RS M' rC 1 AM (.slice (some ⟨b,0,none⟩) (Lib.fields s).length (Lib.fields s).length):=by
  intro s h1 h2
  rw [h1] at h2 ⊢
  exact dE (fun _ _=>fu) h2 (kV _) rfl (by decide)
 exact hw (by kernel_rfl) hb
def WB (i:Nat)(c:UInt8):Bool:=lP c.toNat || (decide (i≠0) && jC c.toNat)
def s7:Nat ->Bs ->Bool
 | _,[]=>true
 | i,c::l=>WB i c && s7 (i+1) l
def kI (s:Bs):Bool:=decide (1<=s.length/\s.length<=12) && !AM.contains s && s7 0 s
def kD {s:Bs}{i:Nat}(h:i<s.length):sE (bs s) i=s[i]:=by
 simp [sE,bs,h]
def tQ {M:aR}(hg:eS M)(s:Bs):Ct Tryz.prog 74 [st s] M [] [] (fun r _ _ _=>r=.bool (kI s)) aM:=by
 intro T
 refine az F74 rfl rfl ?_
 intro bj _
 simp +contextual only [go_sem,aD,sevalprocAttr]
 by_cases hl:(s.length:Int)<1\/12<(s.length:Int)
 ·rw [if_pos hl]
  refine ak aG.rfl' ?_
  have:¬ (1<=s.length/\s.length<=12):=by omega
  simp [kI,this]
 ·rw [if_neg hl]
  have cX:1<=s.length/\s.length<=12:=by omega
  refine aF (DC hg T) ?_
  rintro v M' hM _ hw
  simp +contextual only [go_sem,sevalprocAttr,hl]
  refine aF (pS s hw T) ?_
  rintro v' M2 bh _ rfl
  simp +contextual only [go_sem,aD,sevalprocAttr,hl]
  by_cases hc:AM.contains s=true
  ·simp only [hc,go_sem,sevalprocAttr]
   refine ak aG.rfl' ?_
   rw [kI,hc];simp
  ·simp only [hc,go_sem,sevalprocAttr]
   refine aO s.length 20 [(0,st s),(19,.int .i64 s.length)] (fun i e h=>h=⟨T,M2,[],[]⟩/\s7 0 s=s7 i (s.drop i)) 0 (by omega) (by simp only [aE,go_sem,sevalprocAttr]) (by simp only [go_sem,sevalprocAttr]) ⟨rfl,rfl⟩ ?_
   rintro i e h hi aI ht ⟨rfl,am⟩
   simp only [aE,st] at aI
   by_cases aL:i<s.length
   ·have hx:=kD aL
    have bK:s.drop i=s[i]::s.drop (i+1):=dq aL
    rw [bK] at am
    simp only [s7] at am
    have h0:((i:Int)=0)=(i=0):=by simp
    simp +contextual only [go_sem,aD,sevalprocAttr,aI,ht,aL,hx]
    by_cases hk:WB i s[i]=true
    ·rw [if_neg (by simp only [WB,lP,jC,Bool.or_eq_true,Bool.and_eq_true,decide_eq_true_eq] at hk;omega)]
     refine bT aL ?_ ?_ ⟨rfl,?_⟩
     ·simp only [aE,aI,go_sem,sevalprocAttr]
     ·simp only [go_sem,sevalprocAttr,aA i (by omega)]
     ·rw [am,hk];rfl
    ·rw [if_pos (by simp only [WB,lP,jC,Bool.or_eq_true,Bool.and_eq_true,decide_eq_true_eq] at hk;omega)]
     refine ak aG.rfl' ?_
     simp only [Bool.not_eq_true] at hk
     rw [kI,am,hk];simp
   ·have:i=s.length:=by omega
    subst this
    simp +contextual only [go_sem,aD,sevalprocAttr,aI,ht,aL]
    refine ak aG.rfl' ?_
    have:s7 0 s=true:=by rw [am];simp [s7]
    simp only [Bool.not_eq_true] at hc
    rw [kI,hc,this];simp [cX]
def iV (en:Int):List Tk ->Rs Bs
 | []=> .err 2 en
 | t::r=>if t.k=1 then (if kI t.s=true then .ok t.s r else .err 7 t.at_) else .err 2 t.at_
def iA {M:aR}{pb:Nat}{aX:List Tk}{lv:Value}{en op:Int}(hg:eS M)(hl:RS M gQ 3 aX lv):
 Ct Tryz.prog 41 [.pointer (some ⟨pb,0,none⟩)] M (pL pb lv en op) [] (fR pb en op (fun s v _=>v=st s) (iV en aX)) (gN pb en (iV en aX)):=by
 intro T
 refine az F41 rfl rfl ?_
 intro bj _
 simp only [aK] at bj
 rcases jH hl with ⟨rfl,a,c,rfl⟩ | ⟨t,r,b,o,c,rfl,rfl,hc,h0,h1,h2⟩
 ·simp +contextual only [go_sem,aD,sevalprocAttr,bj]
  refine l4 [] hl ?_
  simp +contextual only [go_sem,sevalprocAttr]
  exact fI [] aG.rfl' rfl
 ·by_cases hk:t.k=1
  ·simp +contextual only [go_sem,aD,sevalprocAttr,bj,h0,h1,hk]
   refine aF (tQ hg t.s T) ?_
   rintro v M3 bG bC rfl
   have fP:=aH bG (fun _ _ h=>h) hl
   simp only [aK] at bC
   by_cases hn:kI t.s=true
   ·have Lt:(1:Int)<=((r.length+1:Nat):Int)/\r.length+1<=c:=⟨by omega,hc⟩
    simp +contextual only [go_sem,aD,sevalprocAttr,hn,bC,Lt]
    refine aQ aG.rfl' rfl rfl ⟨t.s,r,_,?_,rfl,?_,rfl,rfl⟩
    ·simp [iV,hk,hn]
    ·simpa using lY (k:=1) (by decide) (fun _ _=>qM) fP (by simp)
   ·simp +contextual only [go_sem,aD,sevalprocAttr,hn]
    refine l4 [] fP ?_
    simp +contextual only [go_sem,sevalprocAttr]
    exact fI [] aG.rfl' (by simp [iV,hk,hn,pm])
  ·simp +contextual only [go_sem,aD,sevalprocAttr,bj,h0,hk]
   refine l4 [] hl ?_
   simp +contextual only [go_sem,sevalprocAttr]
   exact fI [] aG.rfl' (by simp [iV,hk,pm])
def A7 (s:Bs):Nat:=s.foldl (fun n c=>n*10+(c.toNat - 48)) 0
def agR (l:Bs):∀ (acc k:Nat),acc<10 ^ k ->k+l.length<=16 ->(l.all fun c=>jC c.toNat)=true ->
 Lib.parseUintM (2 ^ 64 - 1) acc l=.ok (l.foldl (fun n c=>n*10+(c.toNat - 48)) acc)/\l.foldl (fun n c=>n*10+(c.toNat - 48)) acc<10 ^ (k+l.length):=by
 induction l with
 | nil=>intro acc k h _ _;exact ⟨rfl,by simpa using h⟩
 | cons c l ih=>
  intro acc k h hk hd
  simp only [List.all_cons,Bool.and_eq_true,jC,decide_eq_true_eq] at hd
  simp only [List.length_cons] at hk
  have hc:48<=c.toNat/\c.toNat<=57:=by omega
  have xQ:acc<10 ^ 15:=Nat.lt_of_lt_of_le h (Nat.pow_le_pow_right (by decide) (by omega))
  have hn:acc*10+(c.toNat - 48)<10 ^ (k+1):=by rw [Nat.pow_succ];omega
  have:=ih (acc*10+(c.toNat - 48)) (k+1) hn (by omega) (by simpa [jC] using hd.2)
  simp only [Lib.parseUintM,if_pos hc,List.foldl_cons,List.length_cons]
  rw [if_neg (by omega),if_neg (by omega)]
  refine ⟨this.1,?_⟩
  rw [show k+(l.length+1)=k+1+l.length from by omega]
  exact this.2
theorem Cq {s:Bs}(h:wQ s=true):Lib.parseIntB 64 s=.ok (A7 s:Int)/\A7 s<10 ^ 16:=by
 simp only [wQ,Bool.and_eq_true,decide_eq_true_eq] at h
 obtain ⟨⟨h1,h2⟩,h3⟩:=h
 obtain ⟨hu,aL⟩:=agR s 0 0 (by decide) (by omega) h3
 have FX:A7 s<10 ^ 16:=Nat.lt_of_lt_of_le aL (Nat.pow_le_pow_right (by decide) (by omega))
 refine ⟨?_,FX⟩
 cases s with
 | nil=>simp at h1
 | cons c r=>
  simp only [List.all_cons,Bool.and_eq_true,jC,decide_eq_true_eq] at h3
  have hc:¬ (c.toNat=43\/c.toNat=45):=by omega
  have Lt:¬ c.toNat=45:=by omega
  unfold Lib.parseIntB
  simp only [if_neg hc,Lib.parseUintB,if_neg (List.cons_ne_nil c r),hu]
  have:¬ (2 ^ (64 - 1)<=A7 (c::r)):=by omega
  simp only [Lt,not_false_eq_true,true_and,false_and,if_false]
  change ¬ (2 ^ (64 - 1)<=List.foldl (fun n c=>n*10+(c.toNat - 48)) 0 (c::r)) at this
  rw [if_neg this]
  rfl
def Fm {M:aR}{s:Bs}(h:wQ s=true):Ct Tryz.prog 123 [st s,.int .i64 10,.int .i64 64] M [] [] (fun r M' _ _=>r=.tuple #[.int .i64 (A7 s),.nilIface]/\M'=M) aM:=by
 refine xM ah7.bd fun w hw=> ?_
 have hl:s.length<=16:=by
  simp only [wQ,Bool.and_eq_true,decide_eq_true_eq] at h
  exact h.1.2
 have hd:(bs s).data.toList=s:=by simp [bs]
 refine Calls.mono (Tryz.strconv_ParseInt_10_at64_ok (bs s) (by rw [Do];omega) (A7 s) (by rw [hd];exact (Cq h).1) w) ?_
 rintro e w' ⟨rfl,gn⟩
 refine ⟨rfl,?_⟩
 rcases gn with rfl | ⟨t,rfl⟩
 ·exact kh.rfl'
 ·exact kh.bytes
def li:Bs:=[45]
def rI (neg:Bool)(at0 en:Int):List Tk ->Rs Int
 | []=> .err 2 en
 | t::r=>if t.k=2 then (if (A7 t.s:Int)>1000000000000000 then .err 3 at0 else .ok (if neg=true then -(A7 t.s:Int) else A7 t.s) r) else .err 2 t.at_
def xp (en:Int)(aX:List Tk):Rs Int:=rI (bH li aX) (pm en aX) en (if bH li aX=true then aX.tail else aX)
def Fy {M:aR}{pb:Nat}{aX:List Tk}{lv:Value}{en op:Int}(hl:RS M gQ 3 aX lv):
 Ct Tryz.prog 78 [.pointer (some ⟨pb,0,none⟩)] M (pL pb lv en op) [] (fR pb en op (fun n v _=>v=.int .i64 n) (xp en aX)) (gN pb en (xp en aX)):=by
 intro T
 refine az F78 rfl rfl ?_
 intro bj _
 simp only [aK] at bj
 simp +contextual only [go_sem,sevalprocAttr]
 refine l4 [] hl ?_
 simp +contextual only [go_sem,sevalprocAttr]
 refine Gh [] li hl ?_
 intro lv' jL
 generalize hg:(if bH li aX=true then aX.tail else aX)=toks1 at jL
 have am:xp en aX=rI (bH li aX) (pm en aX) en toks1:=by unfold xp;rw [hg]
 rcases jH jL with ⟨rfl,a,c,rfl⟩ | ⟨t,r,b,o,c,rfl,rfl,hc,h0,h1,h2⟩
 ·simp +contextual only [go_sem,aD,sevalprocAttr,bj]
  refine l4 [] jL ?_
  simp +contextual only [go_sem,sevalprocAttr]
  exact fI [] aG.rfl' am
 ·by_cases hk:t.k=2
  ·simp +contextual only [go_sem,aD,sevalprocAttr,bj,h0,h1,hk]
   have af1:=UV jL hk
   have aL:=(Cq af1).2
   refine aF (Fm af1 T) ?_
   rintro v M3 bG bC ⟨rfl,rfl⟩
   simp only [rI,hk,if_true] at am
   by_cases FS:(1000000000000000:Int)<(A7 t.s:Int)
   ·simp +contextual only [go_sem,aD,sevalprocAttr,FS]
    exact fI [] aG.rfl' (by rw [am,if_pos FS])
   ·have Lt:(1:Int)<=((r.length+1:Nat):Int)/\r.length+1<=c:=⟨by omega,hc⟩
    rw [if_neg FS] at am
    have xg:RS M3 gQ 3 r (.slice (kG (some ⟨b,o,none⟩) c 1 3) (r.length+1 - 1) (c - 1)):=by simpa using lY (k:=1) (by decide) (fun _ _=>qM) jL (by simp)
    by_cases hs:bH li aX=true
    ·simp +contextual only [go_sem,aD,sevalprocAttr,FS,bj,Lt,hs]
     refine aQ aG.rfl' rfl rfl ⟨_,r,_,am,rfl,?_,rfl,?_⟩
     ·simpa using xg
     ·simp only [hs,if_true]
      rw [Vt _ (by omega)]
    ·simp +contextual only [go_sem,aD,sevalprocAttr,FS,bj,Lt,hs]
     refine aQ aG.rfl' rfl rfl ⟨_,r,_,am,rfl,?_,rfl,?_⟩
     ·simpa using xg
     ·simp only [hs]
      rfl
  ·simp +contextual only [go_sem,aD,sevalprocAttr,bj,h0,hk]
   refine l4 [] jL ?_
   simp +contextual only [go_sem,sevalprocAttr]
   exact fI [] aG.rfl' (by simp [am,rI,hk,pm])
def jk (k:Int):List Tk ->Bool | []=>false | t::_=>decide (t.k=k)
def CP:List Tk ->V | []=>⟨0,0,[]⟩ | t::_=>⟨4,0,t.s⟩
def Rs.map {α β:Type}(f:α ->β):Rs α ->Rs β
 | .ok a r=> .ok (f a) r
 | .err e a=> .err e a
 | .out=> .out
def sy:Bs:=[110,117,108,108]
def Z8:Bs:=[116,114,117,101]
def Vq:Bs:=[102,97,108,115,101]
def jI (en:Int)(aX:List Tk):Rs (Option V):=
 if bH sy aX=true then .ok (some ⟨1,0,[]⟩) aX.tail
 else if bH Z8 aX=true then .ok (some ⟨2,1,[]⟩) aX.tail
 else if bH Vq aX=true then .ok (some ⟨2,0,[]⟩) aX.tail
 else if bH li aX=true\/jk 2 aX=true then (xp en aX).map fun n=>some ⟨3,n,[]⟩
 else if jk 3 aX=true then .ok (some (CP aX)) aX.tail
 else .ok none aX
def Sb (o:Option V)(v:Value)(_:aR):Prop:=match o with
 | some x=>v=.tuple #[.agg ⟨x.cs⟩,.bool true]
 | none=>v=.tuple #[.agg ⟨(⟨0,0,[]⟩:V).cs⟩,.bool false]
theorem yP {M:aR}{pb:Nat}{aX:List Tk}{lv:Value}{en op:Int}(hl:RS M gQ 3 aX lv):
 Ct Tryz.prog 81 [.pointer (some ⟨pb,0,none⟩)] M (pL pb lv en op) [] (fR pb en op Sb (jI en aX)) (gN pb en (jI en aX)):=by
 intro T
 refine az F81 rfl rfl ?_
 intro bj _
 simp only [aK] at bj
 simp +contextual only [go_sem,aD,sevalprocAttr]
 intro b2 T2 dO iC hT hTb
 refine iS [(b2,_)] sy hl (fun iQ lv1 gZ=> ?_) (fun iQ lv1 gZ=> ?_)
 ·simp +contextual only [go_sem,aD,sevalprocAttr,dO]
  exact al (aQ hT rfl rfl ⟨some ⟨1,0,[]⟩,aX.tail,lv1,by simp [jI,iQ],rfl,gZ,rfl,rfl⟩)
 simp +contextual only [go_sem,aD,sevalprocAttr]
 refine iS [(b2,_)] Z8 gZ (fun nW lv2 fD=> ?_) (fun nW lv2 fD=> ?_)
 ·simp +contextual only [go_sem,aD,sevalprocAttr,dO]
  exact al (aQ hT rfl rfl ⟨some ⟨2,1,[]⟩,aX.tail,lv2,by simp [jI,iQ,nW],rfl,fD,rfl,rfl⟩)
 simp +contextual only [go_sem,aD,sevalprocAttr]
 refine iS [(b2,_)] Vq fD (fun F2 lv3 fP=> ?_) (fun F2 lv3 fP=> ?_)
 ·simp +contextual only [go_sem,aD,sevalprocAttr,dO]
  exact al (aQ hT rfl rfl ⟨some ⟨2,0,[]⟩,aX.tail,lv3,by simp [jI,iQ,nW,F2],rfl,fP,rfl,rfl⟩)
 simp +contextual only [go_sem,aD,sevalprocAttr]
 refine ac9 [(b2,_)] li fP ?_
 have A4:jI en aX=if bH li aX=true\/jk 2 aX=true then (xp en aX).map fun n=>some ⟨3,n,[]⟩
  else if jk 3 aX=true then .ok (some (CP aX)) aX.tail else .ok none aX:=by simp [jI,iQ,nW,F2]
 rcases jH fP with ⟨rfl,a,c,rfl⟩ | ⟨t,r,b,o,c,rfl,rfl,hc,h0,h1,h2⟩
 ·simp +contextual only [go_sem,aD,sevalprocAttr,iC,dO,bj,bH]
  refine al (aQ hT rfl rfl ⟨none,[],_,?_,rfl,fP,rfl,rfl⟩)
  simp [A4,bH,jk]
 ·by_cases hm:bH li (t::r)=true\/t.k=2
  ·have hv:jI en (t::r)=(xp en (t::r)).map fun n=>some ⟨3,n,[]⟩:=by
    rw [A4,if_pos]
    simpa [jk] using hm
   simp +contextual only [go_sem,aD,sevalprocAttr,iC,bj,h0,hm]
   refine td [(b2,_)] (Fy fP T2) ?_ (fun c a M' lv' op' hM h=>Md [(b2,_)] hT (by rw [hv,h];rfl))
   rintro v M' n r' lv' hM ut am jL rfl
   simp only [nn,aJ,aK] at ut
   simp +contextual only [go_sem,sevalprocAttr,ut]
   exact al (aQ hT rfl rfl ⟨some ⟨3,n,[]⟩,r',lv',by rw [hv,am];rfl,rfl,jL,rfl,rfl⟩)
  ·have hv:jI en (t::r)=if t.k=3 then .ok (some ⟨4,0,t.s⟩) r else .ok none (t::r):=by
    rw [A4,if_neg (by simpa [jk] using hm)]
    simp [jk,CP]
   simp only [not_or] at hm
   simp +contextual only [go_sem,aD,sevalprocAttr,iC,dO,bj,h0,h1,hm]
   by_cases hk:t.k=3
   ·have Lt:(1:Int)<=((r.length+1:Nat):Int)/\r.length+1<=c:=⟨by omega,hc⟩
    rw [if_pos hk] at hv
    simp +contextual only [go_sem,sevalprocAttr,hk]
    intro b4 T4 eH em fE iJ
    simp +contextual only [go_sem,sevalprocAttr,iC,dO,hm,hk,eH,em,Lt]
    refine al (al (aQ (hT.trans fE) rfl rfl ⟨_,r,_,hv,rfl,?_,rfl,rfl⟩))
    simpa using lY (k:=1) (by decide) (fun _ _=>qM) fP (by simp)
   ·rw [if_neg hk] at hv
    simp +contextual only [go_sem,sevalprocAttr,hk]
    exact al (aQ hT rfl rfl ⟨none,t::r,_,hv,rfl,fP,rfl,rfl⟩)
theorem Oc {M:aR}{pb b:Nat}{lv:Value}{en op:Int}(hb:M b=some [.pointer (some ⟨pb,0,none⟩)])(T:Tm):
 CtD Tryz.prog 124 [.pointer (some ⟨b,0,none⟩)] T M (pL pb lv en op) [] (fun _ M' L' _=>M'=M/\L'=pL pb lv en (IntKind.i64.wrap (op - 1))) aM:=by
 refine RP ah8 rfl rfl ?_
 intro bj _
 simp only [aK] at bj
 simp +contextual only [go_sem,sevalprocAttr,bg hb,bj]
 refine aQ aG.rfl' rfl rfl ?_
 exact ⟨rfl,rfl⟩
def K0 {M:aR}{pb:Nat}{aX:List Tk}{lv:Value}{en op:Int}(hl:RS M gQ 3 aX lv)(h0:0<=op)(h1:op<=1000):
 Ct Tryz.prog 82 [.pointer (some ⟨pb,0,none⟩)] M (pL pb lv en op) [] (fun r M' L' _=>op+1<=100/\L'=pL pb lv en (op+1)/\∃ b,r=.func (.func 124) #[] #[.pointer (some ⟨b,0,none⟩)]/\M' b=some [.pointer (some ⟨pb,0,none⟩)])
  (fun ch _ L' _=>¬ op+1<=100/\ch=sf 4 (pm en aX)/\∃ op',L'=pL pb lv en op'):=by
 intro T
 refine az F82 rfl rfl ?_
 intro bj _
 simp only [aK] at bj
 simp +contextual only [go_sem,aD,sevalprocAttr,bj]
 intro b T2 hb iC hT hTb
 have hw:IntKind.i64.wrap (op+1)=op+1:=bJ (by omega) (by omega)
 simp +contextual only [go_sem,sevalprocAttr,hw]
 by_cases FS:(100:Int)<op+1
 ·simp +contextual only [go_sem,sevalprocAttr,FS]
  refine l4 [(b,_)] hl ?_
  simp +contextual only [go_sem,sevalprocAttr]
  refine bX (gU 4 (pm en aX) M _) (fun _ _ _ _ h=>h.elim) ?_
  rintro ch M4 dz de rfl
  rw [l9,j5]
  refine al (aQ hT rfl rfl ?_)
  exact ⟨by omega,rfl,_,rfl⟩
 ·simp +contextual only [go_sem,sevalprocAttr,FS]
  refine aU fun he h1 h2=> ?_
  refine aQ hT rfl rfl ?_
  exact ⟨by omega,rfl,b,rfl,h1⟩
def nZ (k:Int)(kids:List X):X:=.mk k ⟨0,0,[]⟩ [] [] kids
def IU (x:X)(v:Value)(M:aR):Prop:=∃ cs,v=.agg ⟨cs⟩/\RX M x cs
def ET {M:aR}{k:Int}{kids:List X}{s:Value}(h:RS M (RX M) 7 kids s):RX M (nZ k kids) [.int .i64 k,.int .i64 0,.int .i64 0,st [],st [],st [],s]:=
 uY.2 ⟨s,rfl,h⟩
theorem Dp {cs:List Value}(h:cs.length=7):∃ a b c d e f g,cs=[a,b,c,d,e,f,g]:=by
 match cs,h with
 | [a,b,c,d,e,f,g],_=>exact ⟨a,b,c,d,e,f,g,rfl⟩
theorem bZ {M:aR}{x:X}{cs}(h:RX M x cs):∃ s,cs=[.int .i64 x.k,.int .i64 x.v.k,.int .i64 x.v.n,st x.v.t,st x.tab,st x.name,s]/\s.oneCell'=true/\RS M (RX M) 7 x.kids s:=by
 obtain ⟨s,rfl,hs⟩:=uY.1 h
 refine ⟨s,rfl,?_,hs⟩
 obtain ⟨_,_,h2,_⟩:=hs
 rcases h2 with ⟨_,_,rfl,_⟩ | ⟨b,o,n,c,rfl,_⟩<;>rfl
def BG {M:aR}(k:Int){x:X}{cs:List Value}(hx:RX M x cs):Ct Tryz.prog 127 [.int .i64 k,.agg ⟨cs⟩] M [] [] (fun v M' _ _=>IU (nZ k [x]) v M') aM:=by
 intro T
 obtain ⟨s,rfl,h1,hs⟩:=bZ hx
 refine az aib rfl rfl ?_
 intro bj _
 simp +contextual only [go_sem,sevalprocAttr]
 intro b T1 hb cY hTb b1 T2 fO vy dA gu b2 dO fz
 refine aU fun he hM _=> ?_
 refine ak (cY.trans dA) ?_
 refine ⟨_,rfl,ET ?_⟩
 exact dE (l:=[x]) (fun _ _ h=>dX h) hM (dm (bL he _ _ hx)) rfl (by decide)
def IS {M:aR}(k:Int){x y:X}{cs ds:List Value}(hx:RX M x cs)(hy:RX M y ds):Ct Tryz.prog 129 [.int .i64 k,.agg ⟨cs⟩,.agg ⟨ds⟩] M [] [] (fun v M' _ _=>IU (nZ k [x,y]) v M') aM:=by
 intro T
 obtain ⟨s,rfl,h1,hs⟩:=bZ hx
 obtain ⟨s',rfl,qW,zz⟩:=bZ hy
 refine az aid rfl rfl ?_
 intro bj _
 simp +contextual only [go_sem,sevalprocAttr]
 intro b T1 hb cY hTb b1 T2 fO vy dA gu b2 T3 dO fz fU ef b3 gK cZ
 refine aU fun he hM _=> ?_
 refine ak ((cY.trans dA).trans fU) ?_
 refine ⟨_,rfl,ET ?_⟩
 exact dE (l:=[x,y]) (fun _ _ h=>dX h) hM (cS (dm (bL he _ _ hx)) (dm (bL he _ _ hy))) rfl (by decide)
structure Lvl where
 signs:List Bs
 kind:Int
 once:Bool
def V6 (M:aR)(l:Lvl)(cs:List Value):Prop:=∃ s,RS M rC 1 l.signs s/\(l.signs=[] ->s=.slice none 0 0)/\(l.signs≠[] ->∃ b n,s=.slice (some ⟨b,0,none⟩) n n)/\cs=[s,.int .i64 l.kind,.bool l.once]
theorem EM {M:aR}{l:Lvl}{cs}(h:V6 M l cs):cs.length=3:=by obtain ⟨_,_,_,_,rfl⟩:=h;rfl
def rf:List Lvl:=[⟨[[111,114]],5,false⟩,⟨[[97,110,100]],4,false⟩,⟨[],0,false⟩,⟨[[61],[60,62],[60],[60,61],[62],[62,61]],6,true⟩,⟨[[43],[45]],12,false⟩,⟨[[42]],14,false⟩,⟨[[124,124]],15,false⟩]
theorem qK {M:aR}{l:List Bs}{k:Int}{o:Bool}{b n:Nat}(h:M b=some (l.map st))(hl:l.length=n)(hn:n<=100)(cm:l≠[]):V6 M ⟨l,k,o⟩ [.slice (some ⟨b,0,none⟩) n n,.int .i64 k,.bool o]:=
 ⟨_,dE (fun _ _=>fu) h (kV l) hl (by omega),fun h=>(cm h).elim,fun _=>⟨b,n,rfl⟩,rfl⟩
theorem NT {M:aR}:Ct Tryz.prog 125 [] M [] [] (fun v M' _ _=>RS M' (V6 M') 3 rf v) aM:=by
 intro T
 refine az ah9 rfl rfl ?_
 intro bj _
 simp +contextual only [go_sem,sevalprocAttr]
 intro b0 h0 b1 h1 a1 b2 h2 a2 b3 h3 a3 b4 h4 a4 b5 h5 a5 b6 h6 a6
 refine lD fun M' he hM=> ?_
 obtain ⟨k6,k5,k4,k3,k2,k1,k0,_⟩:=hM
 refine ak aG.rfl' ?_
 refine dE (l:=rf) (fun _ _ h=>EM h) k6 ?_ rfl (by decide)
 refine ⟨_,_,rfl,qK k0 rfl (by decide) (by decide),_,_,rfl,qK k1 rfl (by decide) (by decide),[_,_,_],_,rfl,⟨.slice none 0 0,⟨by decide,[],.inl ⟨none,0,rfl,rfl,fun _=>rfl⟩,rfl⟩,fun _=>rfl,fun h=>(h rfl).elim,rfl⟩,_,_,rfl,qK k2 rfl (by decide) (by decide),_,_,rfl,qK k3 rfl (by decide) (by decide),
  _,_,rfl,qK k4 rfl (by decide) (by decide),_,_,rfl,qK k5 rfl (by decide) (by decide),rfl⟩
def bE:List Bs ->List Tk ->Option Nat
 | [],_=>none
 | s::l,t=>if bH s t=true then some 0 else (bE l t).map (·+1)
def Hi (o:Option Nat):Int:=match o with | some j=>j | none=> -1
def Hj (o:Option Nat)(t:List Tk):List Tk:=match o with | some _=>t.tail | none=>t
def tP {M:aR}{pb:Nat}{aX:List Tk}{lv sv:Value}{en op:Int}{l:List Bs}(hl:RS M gQ 3 aX lv)(hs:RS M rC 1 l sv):
 Ct Tryz.prog 128 [sv,.func (.func 40) #[.pointer (some ⟨pb,0,none⟩)] #[]] M (pL pb lv en op) []
  (fun v M' L' _=>v=.int .i64 (Hi (bE l aX))/\M'=M/\∃ lv',L'=pL pb lv' en op/\RS M gQ 3 (Hj (bE l aX) aX) lv') aM:=by
 intro T
 obtain ⟨hb,a,c,rfl,cX,_,gl⟩:=ax (by decide) (fun _ _=>fu) hs
 refine az aic rfl rfl ?_
 intro bj _
 simp only [aK] at bj
 simp +contextual only [go_sem,aD,sevalprocAttr]
 refine aO l.length 8 [(0,.slice a l.length c),(1,.func (.func 40) #[.pointer (some ⟨pb,0,none⟩)] #[]),(6,.slice a l.length c),(7,.int .i64 l.length)] (fun i e h=>(∃ lv',h=⟨T,M,pL pb lv' en op,[]⟩/\RS M gQ 3 aX lv')/\bE l aX=(bE (l.drop i) aX).map (·+i)) 0 (by omega) (by simp only [aE,go_sem,sevalprocAttr]) (by simp only [go_sem,sevalprocAttr]) ⟨⟨lv,rfl,hl⟩,by simp⟩ ?_
 rintro i e h hi aI ht ⟨⟨lv',rfl,jL⟩,am⟩
 simp only [aE] at aI
 by_cases aL:i<l.length
 ·obtain ⟨b,o,cs,rfl,bP,cH⟩:=gl i l[i] (gq aL)
  unfold rC at cH;subst cH
  have hx:=bP.1
  rw [Nat.mul_one] at hx
  have bK:l.drop i=l[i]::l.drop (i+1):=dq aL
  rw [bK] at am
  simp +contextual only [go_sem,aD,sevalprocAttr,aI,ht,aL,hx]
  refine iS [] l[i] jL (fun hs lv2 fD=> ?_) (fun hs lv2 fD=> ?_)
  ·simp +contextual only [go_sem,aD,sevalprocAttr]
   refine aQ aG.rfl' rfl rfl ?_
   have:bE l aX=some i:=by rw [am];simp [bE,hs]
   rw [this]
   exact ⟨rfl,rfl,lv2,rfl,fD⟩
  ·simp +contextual only [go_sem,aD,sevalprocAttr,ht]
   refine bT aL ?_ ?_ ⟨⟨lv2,rfl,fD⟩,?_⟩
   ·simp only [aE,aI,go_sem,sevalprocAttr]
   ·simp only [go_sem,sevalprocAttr,aA i (by omega)]
   ·rw [am]
    simp only [bE,hs,Bool.false_eq_true,if_false,Option.map_map]
    congr 1
    funext n
    simp only [Function.comp];omega
 ·have:i=l.length:=by omega
  subst this
  simp +contextual only [go_sem,aD,sevalprocAttr,aI,ht,aL]
  refine aQ aG.rfl' rfl rfl ?_
  have:bE l aX=none:=by rw [am];simp [bE]
  rw [this]
  exact ⟨rfl,rfl,lv',rfl,jL⟩
abbrev Z3:Bs:=[99,97,115,101]
abbrev aaa:Bs:=[119,104,101,110]
abbrev Z7:Bs:=[116,104,101,110]
abbrev Z5:Bs:=[101,108,115,101]
abbrev agV:Bs:=[101,110,100]
abbrev Z4:Bs:=[99,111,97,108,101,115,99,101]
abbrev Vp:Bs:=[99,111,117,110,116]
abbrev AL:Bs:=[115,117,109]
abbrev AJ:Bs:=[109,105,110]
abbrev AI:Bs:=[109,97,120]
abbrev AK:Bs:=[110,111,116]
abbrev wIs:Bs:=[105,115]
abbrev sk:Bs:=[40]
abbrev kL:Bs:=[41]
abbrev kM:Bs:=[44]
abbrev As:Bs:=[42]
abbrev agL:Bs:=[46]
abbrev Mq:Bs:=[59]
def Rs.bind {α β:Type}(r:Rs α)(f:α ->List Tk ->Rs β):Rs β:=match r with
 | .ok a t=>f a t
 | .err e a=> .err e a
 | .out=> .out
section
variable {α β:Type} {T N:Tm} {M:aR} {R:RR} {dr:List (Nat×Sched)} {ts:List ResultVar} {post:ep} {pb:Nat} {lv0 lv:Value} {en op0 op:Int} {d:Option Nat} {s:List Vc.Item} {e:dx} {aX:List Tk} {L1:LL}
theorem cy {f:FuncId}{args:List Value}{enc:α ->Value ->aR ->Prop}{res:Rs β}{g:Rs α}{Fk:α ->List Tk ->Rs β}(L1:LL)(hT:aG T N)(hp:res=g.bind Fk)(cm:res≠ .out)
 (hc:g≠ .out ->bU Tryz.prog f args N M (pL pb lv en op) [] (fR pb en op enc g) (gN pb en g))
 (k:∀ v M' a r lv',bm M M' ->aJ M' (L1++pL pb lv' en op) ->res=Fk a r ->RS M' gQ 3 r lv' ->enc a v M' ->
  cA Tryz.prog (fi Tryz.prog T dr ts (aV (pL pb lv0 en op0)) 0 post (gN pb en res)) s (cI e d v) [] ⟨N,M',L1++pL pb lv' en op,R⟩ ⟨⟩):
 dp Tryz.prog (fi Tryz.prog T dr ts (aV (pL pb lv0 en op0)) 0 post (gN pb en res)) f args d s e [] ⟨N,M,L1++pL pb lv en op,R⟩ ⟨⟩:=by
 have hg:g≠ .out:=fun h=>cm (by rw [hp,h];rfl)
 refine td L1 (hc hg) (fun v M' a r lv' hM bj am hr he=>k v M' a r lv' hM bj (by rw [hp,am];rfl) hr he) ?_
 intro c a M' lv' op' hM am
 exact Md L1 hT (by rw [hp,am];rfl)
theorem dU {res:Rs β}{Fk:Unit ->List Tk ->Rs β}(L1:LL){x:Bs}{b:Nat}(hT:aG T N)(hp:res=(cj en [x] aX).bind Fk)(hl:RS M gQ 3 aX lv)
 (k:∀ M' lv',bm M M' ->aJ M' (L1++pL pb lv' en op) ->res=Fk () aX.tail ->RS M' gQ 3 aX.tail lv' ->
  cA Tryz.prog (fi Tryz.prog T dr ts (aV (pL pb lv0 en op0)) 0 post (gN pb en res)) s (cI e d (.tuple #[])) [] ⟨N,M',L1++pL pb lv' en op,R⟩ ⟨⟩):
 dp Tryz.prog (fi Tryz.prog T dr ts (aV (pL pb lv0 en op0)) 0 post (gN pb en res)) 26 [.pointer (some ⟨pb,0,none⟩),.slice (some ⟨b,0,none⟩) 1 1] d s e [] ⟨N,M,(b,[.string (bs x)])::(L1++pL pb lv en op),R⟩ ⟨⟩:=by
 refine dh F26.bd fun M1 aW hb bD=> ?_
 have gZ:=aH aW (fun _ _ h=>h) hl
 have hs:RS M1 rC 1 [x] (.slice (some ⟨b,0,none⟩) 1 1):=dE (fun _ _=>fu) hb (kV [x]) rfl (by decide)
 refine td L1 (vp gZ hs N) ?_ ?_
 ·rintro v M' a r lv' hM bj am hr rfl
  have hr2:r=aX.tail:=by
   simp only [cj] at am
   split at am
   ·injection am with _ h;exact h.symm
   ·cases am
  subst hr2
  exact k M' lv' (aW.trans hM) bj (by rw [hp,am];rfl) hr
 ·intro c a M' lv' op' hM am
  exact Md L1 hT (by rw [hp,am];rfl)
end
def acC (v:V):X:=.mk 1 v [] [] []
def ny (en:Int)(ex:List Tk ->Rs X)(aX:List Tk):Rs X:=
 (jI en aX).bind fun v t=>match v with
  | some v=> .ok (acC v) t
  | none=>
   if bH sk t=true then (ex t.tail).bind fun x t=>(cj en [kL] t).bind fun _ t=> .ok x t
   else if bH Z3 t=true then (cj en [aaa] t.tail).bind fun _ t=>(ex t).bind fun a t=>(cj en [Z7] t).bind fun _ t=>(ex t).bind fun b t=>
    (cj en [Z5] t).bind fun _ t=>(ex t).bind fun c t=>(cj en [agV] t).bind fun _ t=> .ok (nZ 17 [a,b,c]) t
   else if bH Z4 t=true then (cj en [sk] t.tail).bind fun _ t=>(ex t).bind fun a t=>(cj en [kM] t).bind fun _ t=>(ex t).bind fun b t=>(cj en [kL] t).bind fun _ t=> .ok (nZ 18 [a,b]) t
   else if bH Vp t=true then (cj en [sk] t.tail).bind fun _ t=>
    if bH As t=true then (cj en [kL] t.tail).bind fun _ t=> .ok (nZ 19 []) t
    else (ex t).bind fun a t=>(cj en [kL] t).bind fun _ t=> .ok (nZ 20 [a]) t
   else match bE [AL,AJ,AI] t with
    | some i=>(cj en [sk] t.tail).bind fun _ t=>(ex t).bind fun a t=>(cj en [kL] t).bind fun _ t=> .ok (nZ (21+i) [a]) t
    | none=>(iV en t).bind fun n t=>if bH agL t=true then (iV en t.tail).bind fun m t=> .ok (.mk 2 ⟨0,0,[]⟩ n m []) t else .ok (.mk 2 ⟨0,0,[]⟩ [] n []) t
def Y5 (en:Int)(pb:Nat)(ex:List Tk ->Rs X)(op:Int):Prop:=∀ (M:aR) (aX:List Tk) (lv:Value) (T:Tm),eS M ->RS M gQ 3 aX lv ->ex aX≠ .out ->
 bU Tryz.prog 47 [.pointer (some ⟨pb,0,none⟩)] T M (pL pb lv en op) [] (fR pb en op IU (ex aX)) (gN pb en (ex aX))
theorem aaA {M:aR}(v:V):RX M (acC v) [.int .i64 1,.int .i64 v.k,.int .i64 v.n,st v.t,st [],st [],.slice none 0 0]:=
 uY.2 ⟨.slice none 0 0,rfl,Nat.zero_le _,[],.inl ⟨_,_,rfl,rfl,fun _=>rfl⟩,rfl⟩
def lG {M:aR}{x:X}{cs:List Value}(h:RX M x cs):∀ u∈cs,u.oneCell'=true:=by
 obtain ⟨s,rfl,h1,_⟩:=bZ h
 intro u hu
 simp only [mn] at hu
 rcases hu with rfl | rfl | rfl | rfl | rfl | rfl | rfl<;>first | rfl | exact h1
def Tu {a b:List Value}{n:Nat}(ha:a.length+b.length=n)(hn:n<=4398046511104):a.length+b.length<=4398046511104:=by omega
theorem Ro {M:aR}{pb:Nat}{aX:List Tk}{lv:Value}{en op:Int}{ex:List Tk ->Rs X}(hg:eS M)(hl:RS M gQ 3 aX lv)(iL:Y5 en pb ex op)(cm:ny en ex aX≠ .out)(T:Tm):
 bU Tryz.prog 126 [.pointer (some ⟨pb,0,none⟩)] T M (pL pb lv en op) [] (fR pb en op IU (ny en ex aX)) (gN pb en (ny en ex aX)):=by
 refine az aia rfl rfl ?_
 intro bj _
 simp only [aK] at bj
 simp +contextual only [go_sem,sevalprocAttr]
 intro b2 T2 dO fz dA ef
 refine cy [(b2,_)] dA rfl cm (fun _=>yP hl T2) ?_
 intro v M1 o t lv1 aW bD am gZ hv
 have lM:=hg.ext aW
 simp only [nn,aJ,aK] at bD
 cases o with
 | some x=>
  simp only [Sb] at hv;subst hv
  simp +contextual only [go_sem,aD,sevalprocAttr,bD,V.cs]
  intro b3 T3 gK cZ fU gB
  refine al (al (aQ (dA.trans fU) rfl rfl ?_))
  exact ⟨acC x,t,lv1,am,rfl,gZ,rfl,_,rfl,aaA x⟩
 | none=>
  simp only [Sb] at hv;subst hv
  simp +contextual only [go_sem,aD,sevalprocAttr,V.cs]
  intro b3 T3 gK cZ fU gB
  simp only at am
  have hT:=dA.trans fU
  refine iS [(b3,_),(b2,_)] sk gZ (fun hs lv2 fD=> ?_) (fun hs lv2 fD=> ?_)
  ·rw [if_pos hs] at am
   simp +contextual only [go_sem,aD,sevalprocAttr]
   refine cy [(b3,_),(b2,_)] hT am cm (fun h=>iL M1 _ lv2 T3 lM fD h) ?_
   rintro v M2 x t2 lv3 bh aZ am fP ⟨cs,rfl,hx⟩
   obtain ⟨s,rfl,h1,_⟩:=bZ hx
   simp only [nn,aJ,aK] at aZ
   simp +contextual only [go_sem,sevalprocAttr,h1]
   intro b5 T5 jz eg ko nq b6 pA gR
   refine dU [(b5,_),(b3,_),(b2,_)] (hT.trans ko) am fP ?_
   intro M3 lv4 bG bC am kx
   simp only [nn,aJ,aK] at bC
   simp +contextual only [go_sem,sevalprocAttr,bC,cZ,eg,h1]
   refine al (al (al (aQ (hT.trans ko) rfl rfl ?_)))
   exact ⟨x,_,lv4,am,rfl,kx,rfl,_,rfl,bL bG _ _ hx⟩
  rw [if_neg (by simp [hs])] at am
  clear hs
  simp +contextual only [go_sem,aD,sevalprocAttr]
  refine iS [(b3,_),(b2,_)] Z3 fD (fun hs lv3 fP=> ?_) (fun hs lv3 fP=> ?_)
  ·rw [if_pos hs] at am
   simp +contextual only [go_sem,aD,sevalprocAttr]
   intro b4 eH em
   refine dU [(b3,_),(b2,_)] hT am fP ?_
   intro M2 lv4 bh aZ am kx
   simp +contextual only [go_sem,sevalprocAttr]
   refine cy [(b3,_),(b2,_)] hT am cm (fun h=>iL M2 _ lv4 T3 (lM.ext bh) kx h) ?_
   rintro v M3 x t2 lv5 bG bC am iq ⟨cs,rfl,hx⟩
   obtain ⟨s,rfl,h1,_⟩:=bZ hx
   simp only [nn,aJ,aK] at bC
   simp +contextual only [go_sem,sevalprocAttr]
   intro bk fp nS b6 T6 pA gR ug DL b7 mU jD
   refine dU [(b6,_),(bk,_),(b3,_),(b2,_)] (hT.trans ug) am iq ?_
   intro M4 lv6 dz de am mH
   simp only [nn,aJ,aK] at de
   simp +contextual only [go_sem,sevalprocAttr]
   refine eG ⟨T,fun _=>none,[(b6,_)],[]⟩ (gH de.1) ?_
   simp +contextual only [go_sem,sevalprocAttr]
   refine cy [(b6,_),(bk,_),(b3,_),(b2,_)] (hT.trans ug) am cm (fun h=>iL M4 _ lv6 T6 (((lM.ext bh).ext bG).ext dz) mH h) ?_
   rintro v M5 y t3 lv7 dN bS am pg ⟨cs,rfl,hy⟩
   obtain ⟨s',rfl,qW,_⟩:=bZ hy
   simp only [nn,aJ,aK] at bS
   simp +contextual only [go_sem,sevalprocAttr]
   refine ⟨gH bS.1,?_⟩
   intro b8 pp eC
   refine ⟨tM bS.1 (fun h=>eC.1.2 h),?_⟩
   refine ld G7 GD (.slice _ 1 _ _ _ Tryz.underlying54 (cF [] pp trivial rfl) (lG hy)) (cF [(b8,_),(b6,_)] bS.2.1 ⟨⟨eC.2.1.2,eC.2.1.1⟩,⟨gR.1.2,gR.1.1⟩,trivial⟩ rfl) (Nat.zero_lt_succ _) (Tu (n:=14) rfl (by decide)) ?_
   intro ra rm rc jl
   have apu:=pp
   simp +contextual only [go_sem,sevalprocAttr,eC]
   intro b9 qY gY
   refine dU [(b8,_),(b6,_),(bk,_),(b3,_),(b2,_)] (hT.trans ug) am pg ?_
   intro M6 lv8 eO bW am sU
   simp only [nn,aJ,aK] at bW
   simp +contextual only [go_sem,sevalprocAttr]
   refine eG ⟨T,fun _=>none,[(b6,_)],[]⟩ (tM bW.2.1 (fun h=>eC.1.2 h)) ?_
   simp +contextual only [go_sem,sevalprocAttr]
   refine cy [(b8,_),(b6,_),(bk,_),(b3,_),(b2,_)] (hT.trans ug) am cm (fun h=>iL M6 _ lv8 T6 ((((lM.ext bh).ext bG).ext dz).ext dN |>.ext eO) sU h) ?_
   rintro v M7 z t4 lv9 qX mI am Oz ⟨cs,rfl,hz⟩
   obtain ⟨s'',rfl,Xi,_⟩:=bZ hz
   simp only [nn,aJ,aK] at mI
   simp +contextual only [go_sem,sevalprocAttr]
   refine ⟨jX [(b8,_)] mI.2.1 ⟨⟨eC.1.2,eC.1.1⟩,trivial⟩,?_⟩
   intro ba hba Xw
   refine ⟨jX [(ba,_),(b8,_)] mI.2.1 ⟨⟨Xw.2.1.2,Xw.2.1.1⟩,⟨eC.1.2,eC.1.1⟩,trivial⟩,?_⟩
   refine gX G7 GD (.slice _ 1 _ _ _ Tryz.underlying54 (cF [] hba trivial rfl) (lG hz)) (Tu (n:=21) rfl (by decide)) ?_
   intro ra' rm' rc' aqx
   simp +contextual only [go_sem,sevalprocAttr,eC,Xw]
   intro bb XD ui
   refine dU [(ba,_),(b8,_),(b6,_),(bk,_),(b3,_),(b2,_)] (hT.trans ug) am Oz ?_
   intro M8 lva vx oW am hla
   simp only [nn,aJ,aK] at oW
   simp +contextual only [go_sem,sevalprocAttr,oW,cZ,nS,gR,eC,Xw]
   refine cP fun M9 Ol rG iR=> ?_
   refine al (al (al (al (al (al (aQ (hT.trans ug) rfl rfl ?_))))))
   have hx9:=bL (((((dz.trans dN).trans eO).trans qX).trans vx).trans Ol) _ _ hx
   have hy9:=bL (((eO.trans qX).trans vx).trans Ol) _ _ hy
   have hz9:=bL (vx.trans Ol) _ _ hz
   refine ⟨nZ 17 [x,y,z],_,lva,am,rfl,aH Ol (fun _ _ h=>h) hla,rfl,_,rfl,ET ⟨by simp,_,iR,?_⟩⟩
   exact cS (dm hx9) (cS (dm hy9) (dm hz9))
  rw [if_neg (by simp [hs])] at am
  clear hs
  simp +contextual only [go_sem,aD,sevalprocAttr]
  refine iS [(b3,_),(b2,_)] Z4 fP (fun hs lv4 kx=> ?_) (fun hs lv4 kx=> ?_)
  ·rw [if_pos hs] at am
   simp +contextual only [go_sem,aD,sevalprocAttr]
   intro b4 eH em
   refine dU [(b3,_),(b2,_)] hT am kx ?_
   intro M2 lv5 bh aZ am iq
   simp +contextual only [go_sem,sevalprocAttr]
   refine cy [(b3,_),(b2,_)] hT am cm (fun h=>iL M2 _ lv5 T3 (lM.ext bh) iq h) ?_
   rintro v M3 x t2 lv6 bG bC am mH ⟨cs,rfl,hx⟩
   obtain ⟨s,rfl,h1,_⟩:=bZ hx
   simp only [nn,aJ,aK] at bC
   simp +contextual only [go_sem,sevalprocAttr,h1]
   intro b7 T7 mU jD B5 Ja b6 pA gR
   refine dU [(b7,_),(b3,_),(b2,_)] (hT.trans B5) am mH ?_
   intro M4 lv7 dz de am pg
   simp +contextual only [go_sem,sevalprocAttr]
   refine cy [(b7,_),(b3,_),(b2,_)] (hT.trans B5) am cm (fun h=>iL M4 _ lv7 T7 (((lM.ext bh).ext bG).ext dz) pg h) ?_
   rintro v M5 y t3 lv8 dN bS am sU ⟨cs,rfl,hy⟩
   obtain ⟨s',rfl,qW,_⟩:=bZ hy
   simp only [nn,aJ,aK] at bS
   simp +contextual only [go_sem,sevalprocAttr,qW]
   intro b8 T8 pp eC nE sP b9 qY gY
   refine dU [(b8,_),(b7,_),(b3,_),(b2,_)] ((hT.trans B5).trans nE) am sU ?_
   intro M6 lv9 eO bW am Oz
   simp only [nn,aJ,aK] at bW
   simp +contextual only [go_sem,sevalprocAttr,bW,eC]
   refine aF (IS 18 (bL ((dz.trans dN).trans eO) _ _ hx) (bL eO _ _ hy) T8) ?_
   rintro v M7 qX mI ⟨cs,rfl,LG⟩
   obtain ⟨s'',rfl,Xi,_⟩:=bZ LG
   simp only [aJ,aK] at mI
   simp +contextual only [go_sem,sevalprocAttr,mI,cZ,jD,eC,Xi]
   refine al (al (al (al (aQ ((hT.trans B5).trans nE) rfl rfl ?_))))
   exact ⟨_,_,lv9,am,rfl,aH qX (fun _ _ h=>h) Oz,rfl,_,rfl,LG⟩
  rw [if_neg (by simp [hs])] at am
  clear hs
  simp +contextual only [go_sem,aD,sevalprocAttr]
  refine iS [(b3,_),(b2,_)] Vp kx (fun hs lv5 iq=> ?_) (fun hs lv5 iq=> ?_)
  ·rw [if_pos hs] at am
   simp +contextual only [go_sem,aD,sevalprocAttr]
   intro b4 eH em
   refine dU [(b3,_),(b2,_)] hT am iq ?_
   intro M2 lv6 bh aZ am mH
   simp +contextual only [go_sem,sevalprocAttr]
   refine iS [(b3,_),(b2,_)] As mH (fun nW lv7 pg=> ?_) (fun nW lv7 pg=> ?_)
   ·rw [if_pos nW] at am
    simp +contextual only [go_sem,aD,sevalprocAttr]
    intro b5 jz eg
    refine dU [(b3,_),(b2,_)] hT am pg ?_
    intro M3 lv8 bG bC am sU
    simp only [nn,aJ,aK] at bC
    simp +contextual only [go_sem,sevalprocAttr,bC,cZ]
    refine al (al (aQ hT rfl rfl ?_))
    exact ⟨_,_,lv8,am,rfl,sU,rfl,_,rfl,ET ⟨Nat.zero_le _,[],.inl ⟨_,_,rfl,rfl,fun _=>rfl⟩,rfl⟩⟩
   ·rw [if_neg (by simp [nW])] at am
    simp +contextual only [go_sem,aD,sevalprocAttr]
    refine cy [(b3,_),(b2,_)] hT am cm (fun h=>iL M2 _ lv7 T3 (lM.ext bh) pg h) ?_
    rintro v M3 x t2 lv8 bG bC am sU ⟨cs,rfl,hx⟩
    simp +contextual only [go_sem,sevalprocAttr]
    refine aF (BG 20 hx T3) ?_
    rintro v M4 dz de ⟨cs',rfl,hx4⟩
    obtain ⟨s,rfl,h1,_⟩:=bZ hx4
    simp only [aJ,aK] at de
    simp +contextual only [go_sem,sevalprocAttr,h1]
    intro b7 T7 mU jD B5 Ja b6 pA gR
    refine dU [(b7,_),(b3,_),(b2,_)] (hT.trans B5) am (aH dz (fun _ _ h=>h) sU) ?_
    intro M5 lv9 dN bS am Oz
    simp only [nn,aJ,aK] at bS
    simp +contextual only [go_sem,sevalprocAttr,bS,cZ,jD,h1]
    refine al (al (al (aQ (hT.trans B5) rfl rfl ?_)))
    exact ⟨_,_,lv9,am,rfl,Oz,rfl,_,rfl,bL dN _ _ hx4⟩
  rw [if_neg (by simp [hs])] at am
  clear hs
  simp +contextual only [go_sem,aD,sevalprocAttr]
  intro b4 eH em
  refine bR 3 105 [(0,.pointer (some ⟨pb,0,none⟩)),(2,.pointer (some ⟨b2,0,none⟩)),(103,.slice (some ⟨b4,0,none⟩) 3 3),(104,.int .i64 3)]
   (fun i e h=>(∃ M' lv' cs3 cs2,bm M1 M'/\h=⟨T3,M',(b3,cs3)::(b2,cs2)::pL pb lv' en op,[]⟩/\cs2.length=7/\M' b4=some ([AL,AJ,AI].map st)/\RS M' gQ 3 t lv'/\M' b3=none/\M' b2=none/\M' pb=none)/\bE [AL,AJ,AI] t=(bE ([AL,AJ,AI].drop i) t).map (·+i))
   0 (by omega) (by simp only [aE,go_sem,sevalprocAttr]) (by simp only [go_sem,sevalprocAttr]) (aU fun he hb bj=>aC ⟨⟨_,lv5,_,_,he,rfl,rfl,hb,aH he (fun _ _ h=>h) iq,bj.1,bj.2.1,by simpa only [aK] using bj.2.2⟩,by simp⟩) ?_
  rintro i e h hi aI ht ⟨⟨M2,lv6,cs3,cs2,bh,rfl,jE,hw,mH,Jo,pt,hnp⟩,lu⟩
  simp only [aE] at aI
  obtain ⟨q0,q1,q2,q3,q4,q5,q6,rfl⟩:=Dp jE
  have xh:=lM.ext bh
  by_cases aL:i<3
  ·have bK:[AL,AJ,AI].drop i=[AL,AJ,AI][i]::[AL,AJ,AI].drop (i+1):=dq aL
   rw [bK] at lu
   have hx:aN M2 ⟨b4,i,none⟩=some (st [AL,AJ,AI][i]):=by
    rw [bg hw,List.getElem?_map,gq aL]
    rfl
   have SK:(i:Int)<3:=by omega
   simp +contextual only [go_sem,aD,sevalprocAttr,aI,ht,SK,hx]
   refine iS [(b3,_),(b2,_)] [AL,AJ,AI][i] mH (fun hs lv7 pg=> ?_) (fun hs lv7 pg=> ?_)
   ·have HX:bE [AL,AJ,AI] t=some i:=by rw [lu];simp [bE,hs]
    rw [HX] at am
    simp only at am
    simp +contextual only [go_sem,aD,sevalprocAttr,aI]
    intro b5 jz eg
    refine dU [(b3,_),(b2,_)] hT am pg ?_
    intro M3 lv8 bG bC am sU
    simp +contextual only [go_sem,sevalprocAttr,aI]
    refine cy [(b3,_),(b2,_)] hT am cm (fun h=>iL M3 _ lv8 T3 (xh.ext bG) sU h) ?_
    rintro v M4 x t2 lv9 dz de am Oz ⟨cs,rfl,hx⟩
    have OG:IntKind.i64.wrap (21+(i:Int))=21+(i:Int):=bJ (by omega) (by omega)
    simp +contextual only [go_sem,sevalprocAttr,OG]
    refine aF (BG (21+(i:Int)) hx T3) ?_
    rintro v M5 dN bS ⟨cs',rfl,S6⟩
    obtain ⟨s,rfl,h1,_⟩:=bZ S6
    simp only [aJ,aK] at bS
    simp +contextual only [go_sem,sevalprocAttr,h1,aI]
    intro b7 T7 mU jD B5 Ja b6 pA gR
    refine dU [(b7,_),(b3,_),(b2,_)] (hT.trans B5) am (aH dN (fun _ _ h=>h) Oz) ?_
    intro M6 lva eO bW am hla
    simp only [nn,aJ,aK] at bW
    simp +contextual only [go_sem,sevalprocAttr,bW,cZ,jD,h1,aI]
    refine al (al (al (aQ (hT.trans B5) rfl rfl ?_)))
    exact ⟨_,_,lva,am,rfl,hla,rfl,_,rfl,bL eO _ _ S6⟩
   ·simp +contextual only [go_sem,aD,sevalprocAttr,ht]
    refine bT aL ?_ ?_ ⟨⟨M2,lv7,cs3,_,bh,rfl,rfl,hw,pg,Jo,pt,hnp⟩,?_⟩
    ·simp only [aE,aI,go_sem,sevalprocAttr]
    ·simp only [go_sem,sevalprocAttr,aA i (by omega)]
    ·rw [lu]
     simp only [bE,hs,Bool.false_eq_true,if_false,Option.map_map]
     congr 1
     funext n
     simp only [Function.comp];omega
  ·have:i=3:=by omega
   subst this
   have HX:bE [AL,AJ,AI] t=none:=by rw [lu];rfl
   rw [HX] at am
   simp only at am
   have h33:¬ ((3:Nat):Int)<3:=by omega
   simp +contextual only [go_sem,aD,sevalprocAttr,aI,ht]
   refine cy [(b3,_),(b2,_)] hT am cm (fun _=>iA xh mH T3) ?_
   rintro v M3 n t2 lv7 bG bC am pg rfl
   simp +contextual only [go_sem,sevalprocAttr,aI]
   refine iS [(b3,_),(b2,_)] agL pg (fun hs lv8 sU=> ?_) (fun hs lv8 sU=> ?_)
   ·rw [if_pos hs] at am
    simp +contextual only [go_sem,aD,sevalprocAttr,aI]
    refine cy [(b3,_),(b2,_)] hT am cm (fun _=>iA (xh.ext bG) sU T3) ?_
    rintro v M4 m t3 lv9 dz de am Oz rfl
    simp only [nn,aJ,aK] at de
    simp +contextual only [go_sem,sevalprocAttr,de,aI,cZ]
    refine al (al (aQ hT rfl rfl ?_))
    exact ⟨_,_,lv9,am,rfl,Oz,rfl,_,rfl,uY.2 ⟨_,rfl,Nat.zero_le _,[],.inl ⟨_,_,rfl,rfl,fun _=>rfl⟩,rfl⟩⟩
   ·rw [if_neg (by simp [hs])] at am
    simp only [nn,aJ,aK] at bC
    simp +contextual only [go_sem,aD,sevalprocAttr,bC,aI,cZ]
    refine al (al (aQ hT rfl rfl ?_))
    exact ⟨_,_,lv8,am,rfl,sU,rfl,_,rfl,uY.2 ⟨_,rfl,Nat.zero_le _,[],.inl ⟨_,_,rfl,rfl,fun _=>rfl⟩,rfl⟩⟩
def ir (n:Nat):Lvl:=rf.getD n ⟨[],0,false⟩
def ky (g:List Tk ->Rs X)(l:Lvl):Nat ->X ->List Tk ->Rs X
 | 0,_,_=> .out
 | k+1,x,t=>match bE l.signs t with
  | none=> .ok x t
  | some j=>(g t.tail).bind fun y t'=>if l.once=true then .ok (nZ (l.kind+j) [x,y]) t' else ky g l k (nZ (l.kind+j) [x,y]) t'
def isM (en:Int)(x:X)(t:List Tk):Rs X:=(cj en [sy] (if bH AK t.tail=true then t.tail.tail else t.tail)).bind fun _ t'=> .ok (if bH AK t.tail=true then nZ 3 [nZ 16 [x]] else nZ 16 [x]) t'
def ff (en:Int):Nat ->Nat ->Int ->List Tk ->Rs X
 | 0,_,_,_=> .out
 | f+1,n,op,t=>
  if n=7 then ny en (fun t=>if op+1>100 then .err 4 (pm en t) else ff en f 0 (op+1) t) t
  else if n=2 then
   if bH AK t=true then (if op+1>100 then .err 4 (pm en t.tail) else (ff en f 2 (op+1) t.tail).bind fun x t=> .ok (nZ 3 [x]) t)
   else ff en f 3 op t
  else (ff en f (n+1) op t).bind fun x t=>
   if n=3/\bH wIs t=true then isM en x t
   else ky (ff en f (n+1) op) (ir n) (t.length+1) x t
def wE (en:Int)(f:Nat)(op:Int)(t:List Tk):Rs X:=if op+1>100 then .err 4 (pm en t) else ff en f 0 (op+1) t
def adV (en:Int)(pb:Nat)(f:Nat):Prop:=∀ (n:Nat) (op:Int) (M:aR) (t:List Tk) (lv:Value) (T:Tm),n<=7 ->0<=op ->op<=100 ->eS M ->RS M gQ 3 t lv ->ff en f n op t≠ .out ->
 bU Tryz.prog 83 [.pointer (some ⟨pb,0,none⟩),.int .i64 (n:Int)] T M (pL pb lv en op) [] (fR pb en op IU (ff en f n op t)) (gN pb en (ff en f n op t))
def qS {M:aR}{N:Tm}{R:RR}{pb b:Nat}{lv:Value}{en op:Int}(L1:LL)(hb:M b=some [.pointer (some ⟨pb,0,none⟩)]){args:Array Value}(ha:args.toList=[]){k:Sh ->Prop}(hk:k ⟨N,M,L1++pL pb lv en (IntKind.i64.wrap (op - 1)),R⟩):
 BO Tryz.prog [{target:=.fn (.func 124) ⟨[.pointer (some ⟨b,0,none⟩)]⟩,args:=args}] ⟨N,M,L1++pL pb lv en op,R⟩ k:=by
 have hd:dFn {target:=.fn (.func 124) ⟨[.pointer (some ⟨b,0,none⟩)]⟩,args:=args}=some (124,[.pointer (some ⟨b,0,none⟩)]):=by simp [dFn,ha]
 unfold BO
 rw [hd]
 refine Vz L1 (Oc hb N) fun v M' L' hM Oy bj h=> ?_
 obtain ⟨rfl,rfl⟩:=h
 exact hk
def C1 {op:Int}(h0:0<=op)(h1:op<=1000):IntKind.i64.wrap (op+1 - 1)=op:=by
 rw [show op+1 - 1=op from by omega]
 exact bJ (by omega) (by omega)
theorem qQ (e a:Int):Wy (sf e a)=true:=rfl
theorem KY {en:Int}{pb f:Nat}{op:Int}(hb:adV en pb f)(h0:0<=op)(h1:op<=100):Y5 en pb (wE en f op) op:=by
 intro M aX lv T hg hl cm
 refine FA F47 rfl rfl ?_
 intro bj _
 simp only [aK] at bj
 simp +contextual only [go_sem,sevalprocAttr]
 intro b2 T2 dO fz dA ef
 refine dF [(b2,_)] (K0 hl h0 (by omega) T2) ?_ ?_
 ·rintro v M1 L1 aW EB bD ⟨ec,rfl,b,rfl,XF⟩
  have iL:wE en f op aX=ff en f 0 (op+1) aX:=by unfold wE;rw [if_neg (by omega)]
  rw [iL] at cm ⊢
  have gZ:=aH aW (fun _ _ h=>h) hl
  simp only [nn,aJ,aK] at bD
  simp +contextual only [go_sem,sevalprocAttr]
  refine dF [(b2,_)] (hb 0 (op+1) M1 aX lv T2 (by omega) (by omega) ec (hg.ext aW) gZ cm) ?_ ?_
  ·rintro v M2 L2 bh lr aZ ⟨x,r,lv2,am,rfl,fD, -,cs,rfl,hx⟩
   obtain ⟨s,rfl,qW,_⟩:=bZ hx
   simp only [nn,aJ,aK] at aZ
   simp +contextual only [go_sem,sevalprocAttr,qW]
   refine qS [(b2,_)] (bh _ _ XF) rfl ?_
   rw [C1 h0 (by omega)]
   simp +contextual only [go_sem,sevalprocAttr,aZ]
   refine al (aQ dA rfl rfl ?_)
   exact ⟨x,r,lv2,am,rfl,fD,rfl,_,rfl,hx⟩
  ·rintro ch M2 L2 bh lr aZ ⟨c,a,lv2,op2,am,rfl,rfl, -⟩
   rw [xP]
   refine ⟨qQ _ _,?_⟩
   refine qS [(b2,_)] (bh _ _ XF) rfl ?_
   refine al (aQ dA rfl rfl ?_)
   exact ⟨c,a,lv2,_,am,rfl,rfl,rfl⟩
 ·rintro ch M1 L1 aW EB bD ⟨ec,rfl,op',rfl⟩
  have iL:wE en f op aX=.err 4 (pm en aX):=by unfold wE;rw [if_pos (by omega)]
  rw [iL]
  refine ⟨qQ _ _,?_⟩
  refine al (aQ dA rfl rfl ?_)
  exact ⟨4,_,lv,op',rfl,rfl,rfl,rfl⟩
def V7 {M:aR}{b o:Nat}{l:Lvl}{cs:List Value}(h:V6 M l cs)(ha:At M b o cs):∃ s,aN M ⟨b,o,none⟩=some s/\aN M ⟨b,o+1,none⟩=some (.int .i64 l.kind)/\aN M ⟨b,o+2,none⟩=some (.bool l.once)/\
 RS M rC 1 l.signs s/\(l.signs=[] ->s=.slice none 0 0)/\(l.signs≠[] ->∃ b n,s=.slice (some ⟨b,0,none⟩) n n):=by
 obtain ⟨s,h1,h2,h3,rfl⟩:=h
 exact ⟨s,ha.1,ha.2.1,ha.2.2.1,h1,h2,h3⟩
def X8 {n:Nat}(h:n<7):rf[n]?=some (ir n):=by
 have:n<rf.length:=h
 rw [gq this]
 simp [ir,List.getD_eq_getElem?_getD,gq this]
section
variable {α β:Type} {T N:Tm} {M:aR} {R:RR} {dr:List (Nat×Sched)} {ts:List ResultVar} {post:ep} {pb:Nat} {lv0 lv:Value} {en op0 op:Int} {d:Option Nat} {s:List Vc.Item} {e:dx} {aX:List Tk} {L1:LL}
theorem JX {res:Rs α}{c a:Int}(L1:LL)(hT:aG T N)(h:res=.err c a):(PQ Tryz.prog T dr ts (aV (pL pb lv0 en op0)) 0 post (gN pb en res)).pan (sf c a) e [] ⟨N,M,L1++pL pb lv en op,R⟩:=by
 rw [xP]
 exact ⟨qQ c a,gS L1 (bY (aQ hT rfl rfl ⟨c,a,lv,op,h,rfl,rfl,rfl⟩))⟩
theorem uA {f:FuncId}{args:List Value}{enc:α ->Value ->aR ->Prop}{res:Rs β}{g:Rs α}{Fk:α ->List Tk ->Rs β}(L1:LL)(hT:aG T N)(hp:res=g.bind Fk)(cm:res≠ .out)
 (hc:g≠ .out ->bU Tryz.prog f args N M (pL pb lv en op) [] (fR pb en op enc g) (gN pb en g))
 (k:∀ v M' a r lv',bm M M' ->aJ M' (L1++pL pb lv' en op) ->res=Fk a r ->RS M' gQ 3 r lv' ->enc a v M' ->
  cA Tryz.prog (PQ Tryz.prog T dr ts (aV (pL pb lv0 en op0)) 0 post (gN pb en res)) s (cI e d v) [] ⟨N,M',L1++pL pb lv' en op,R⟩ ⟨⟩):
 dp Tryz.prog (PQ Tryz.prog T dr ts (aV (pL pb lv0 en op0)) 0 post (gN pb en res)) f args d s e [] ⟨N,M,L1++pL pb lv en op,R⟩ ⟨⟩:=by
 have hg:g≠ .out:=fun h=>cm (by rw [hp,h];rfl)
 refine td L1 (hc hg) (fun v M' a r lv' hM bj am hr he=>k v M' a r lv' hM bj (by rw [hp,am];rfl) hr he) ?_
 intro c a M' lv' op' hM am
 exact JX L1 hT (by rw [hp,am];rfl)
theorem LY {res:Rs β}{Fk:Unit ->List Tk ->Rs β}(L1:LL){x:Bs}{b:Nat}(hT:aG T N)(hp:res=(cj en [x] aX).bind Fk)(hl:RS M gQ 3 aX lv)
 (k:∀ M' lv',bm M M' ->aJ M' (L1++pL pb lv' en op) ->res=Fk () aX.tail ->RS M' gQ 3 aX.tail lv' ->
  cA Tryz.prog (PQ Tryz.prog T dr ts (aV (pL pb lv0 en op0)) 0 post (gN pb en res)) s (cI e d (.tuple #[])) [] ⟨N,M',L1++pL pb lv' en op,R⟩ ⟨⟩):
 dp Tryz.prog (PQ Tryz.prog T dr ts (aV (pL pb lv0 en op0)) 0 post (gN pb en res)) 26 [.pointer (some ⟨pb,0,none⟩),.slice (some ⟨b,0,none⟩) 1 1] d s e [] ⟨N,M,(b,[.string (bs x)])::(L1++pL pb lv en op),R⟩ ⟨⟩:=by
 refine dh F26.bd fun M1 aW hb bD=> ?_
 have gZ:=aH aW (fun _ _ h=>h) hl
 have hs:RS M1 rC 1 [x] (.slice (some ⟨b,0,none⟩) 1 1):=dE (fun _ _=>fu) hb (kV [x]) rfl (by decide)
 refine td L1 (vp gZ hs N) ?_ ?_
 ·rintro v M' a r lv' hM bj am hr rfl
  have hr2:r=aX.tail:=by
   simp only [cj] at am
   split at am
   ·injection am with _ h;exact h.symm
   ·cases am
  subst hr2
  exact k M' lv' (aW.trans hM) bj (by rw [hp,am];rfl) hr
 ·intro c a M' lv' op' hM am
  exact JX L1 hT (by rw [hp,am];rfl)
end
theorem Rs.bind_ok {α:Type}(g:Rs α):g=g.bind fun a t=> .ok a t:=by cases g<;>rfl
def zE {l:List Bs}{t:List Tk}:∀ {j:Nat},bE l t=some j ->j<l.length:=by
 induction l with
 | nil=>intro j h;cases h
 | cons s l ih=>
  intro j h
  simp only [bE] at h
  split at h
  ·injection h with h;subst h;simp
  ·obtain ⟨k,hk,rfl⟩:=Option.map_eq_some_iff.1 h
   have:=ih hk
   simp only [List.length_cons];omega
def OV:∀ n,n<7 ->0<=(ir n).kind/\(ir n).kind<=15/\(ir n).signs.length<=6/\((ir n).once=decide (n=3))/\(n≠2 ->(ir n).signs≠[]):=by decide
def NM {en:Int}{pb:Nat}:∀ f,adV en pb f:=by
 intro f
 induction f with
 | zero=>intro n op M t lv T hn h0 h1 hg hl cm;exact (cm rfl).elim
 | succ f ih=>
  intro n op M t lv T hn h0 h1 hg hl cm
  refine FA F83 rfl rfl ?_
  intro bj _
  simp only [aK] at bj
  simp +contextual only [go_sem,sevalprocAttr]
  intro b4 T4 eH em fE iJ
  refine aF (NT T4) ?_
  rintro v M1 aW bD aI
  have gZ:=aH aW (fun _ _ h=>h) hl
  have lM:=hg.ext aW
  simp only [aJ,aK] at bD
  obtain ⟨_,la,lc,rfl,hlc,_,gl⟩:=ax (by decide) (fun _ _ h=>EM h) aI
  have afT:rf.length=7:=rfl
  simp +contextual only [go_sem,aD,sevalprocAttr,afT]
  by_cases hn7:n=7
  ·subst hn7
   simp +contextual only [go_sem,sevalprocAttr]
   have vA:ff en (f+1) 7 op t=ny en (wE en f op) t:=rfl
   refine uA [(b4,_)] fE (vA.trans (Rs.bind_ok _)) cm (fun h=>Ro lM gZ (KY ih h0 h1) h T4) ?_
   rintro v M2 x r lv2 bh aZ am fD ⟨cs,rfl,hx⟩
   obtain ⟨s,rfl,qW,_⟩:=bZ hx
   simp only [nn,aJ,aK] at aZ
   simp +contextual only [go_sem,sevalprocAttr,aZ,qW]
   refine al (aQ fE rfl rfl ?_)
   exact ⟨x,r,lv2,am,rfl,fD,rfl,_,rfl,hx⟩
  have afU:n<7:=by omega
  obtain ⟨lb,lo,cs,rfl,bP,zy⟩:=gl n _ (X8 afU)
  obtain ⟨sg,g0,g1,g2,hsg,us,afx⟩:=V7 zy bP
  have alf:¬ (n:Int)=7:=by omega
  have lu:(n:Int)<7:=by omega
  by_cases pt:n=2
  ·subst pt
   have tB:=us rfl
   subst tB
   simp +contextual only [go_sem,aD,sevalprocAttr,g0]
   have vA:ff en (f+1) 2 op t=if bH AK t=true then (if op+1>100 then .err 4 (pm en t.tail) else (ff en f 2 (op+1) t.tail).bind fun x t=> .ok (nZ 3 [x]) t) else ff en f 3 op t:=rfl
   refine iS [(b4,_)] AK gZ (fun hs lv2 fD=> ?_) (fun hs lv2 fD=> ?_)
   ·rw [if_pos hs] at vA
    simp +contextual only [go_sem,aD,sevalprocAttr]
    refine dF [(b4,_)] (K0 fD h0 (by omega) T4) ?_ ?_
    ·rintro v M2 L2 bh lr aZ ⟨ec,rfl,b,rfl,XF⟩
     rw [if_neg (by omega)] at vA
     have fP:=aH bh (fun _ _ h=>h) fD
     simp only [nn,aJ,aK] at aZ
     simp +contextual only [go_sem,sevalprocAttr]
     have XL:ff en f 2 (op+1) t.tail≠ .out:=fun h=>cm (by rw [vA,h];rfl)
     refine dF [(b4,_)] (ih 2 (op+1) M2 t.tail lv2 T4 (by omega) (by omega) ec (lM.ext bh) fP XL) ?_ ?_
     ·rintro v M3 L3 bG FV bC ⟨x,r,lv3,am,rfl,fP, -,cs3,rfl,hx⟩
      simp +contextual only [go_sem,sevalprocAttr]
      refine aF (BG 3 hx T4) ?_
      rintro v M5 dN bS ⟨cs',rfl,S6⟩
      obtain ⟨s,rfl,qW,_⟩:=bZ S6
      simp only [aJ,aK] at bS
      simp +contextual only [go_sem,sevalprocAttr,qW]
      refine qS [(b4,_)] ((bG.trans dN) _ _ XF) rfl ?_
      rw [C1 h0 (by omega)]
      simp +contextual only [go_sem,sevalprocAttr,bS]
      refine al (aQ fE rfl rfl ?_)
      exact ⟨_,r,lv3,by rw [vA,am];rfl,rfl,aH dN (fun _ _ h=>h) fP,rfl,_,rfl,S6⟩
     ·rintro ch M3 L3 bG FV bC ⟨c,a,lv3,op3,am,rfl,rfl, -⟩
      rw [xP]
      refine ⟨qQ _ _,?_⟩
      refine qS [(b4,_)] (bG _ _ XF) rfl ?_
      refine al (aQ fE rfl rfl ?_)
      exact ⟨c,a,lv3,_,by rw [vA,am];rfl,rfl,rfl,rfl⟩
    ·rintro ch M2 L2 bh lr aZ ⟨ec,rfl,op',rfl⟩
     rw [if_pos (by omega)] at vA
     exact JX [(b4,_)] fE vA
   ·rw [if_neg (by simp [hs])] at vA
    simp +contextual only [go_sem,aD,sevalprocAttr]
    refine uA [(b4,_)] fE (vA.trans (Rs.bind_ok _)) cm (fun h=>ih 3 op M1 t lv2 T4 (by omega) h0 h1 lM fD h) ?_
    rintro v M2 x r lv2 bh aZ am fD ⟨cs,rfl,hx⟩
    obtain ⟨s,rfl,qW,_⟩:=bZ hx
    simp only [nn,aJ,aK] at aZ
    simp +contextual only [go_sem,sevalprocAttr,aZ,qW]
    refine al (aQ fE rfl rfl ?_)
    exact ⟨x,r,lv2,am,rfl,fD,rfl,_,rfl,hx⟩
  ·obtain ⟨nU,ap6,iR,af7,alM⟩:=OV n afU
   obtain ⟨sb,sn,rfl⟩:=afx (alM pt)
   have vA:ff en (f+1) n op t=(ff en f (n+1) op t).bind fun x t=>if n=3/\bH wIs t=true then isM en x t else ky (ff en f (n+1) op) (ir n) (t.length+1) x t:=by
    conv=>lhs;unfold ff
    rw [if_neg hn7,if_neg pt]
   simp +contextual only [go_sem,aD,sevalprocAttr,g0,alf,lu,aA n (by omega)]
   refine uA [(b4,_)] fE vA cm (fun h=>ih (n+1) op M1 t lv T4 (by omega) h0 h1 lM gZ h) ?_
   rintro v M2 x r lv2 bh aZ am fD ⟨cs2,rfl,hx⟩
   obtain ⟨s,rfl,qW,_⟩:=bZ hx
   have g2':=ay bh g2
   simp only [nn,aJ,aK] at aZ
   simp +contextual only [go_sem,aD,sevalprocAttr,qW,lu,g2']
   intro b6 T6 pA gR ug DL
   have A0:=fE.trans ug
   rw [af7]
   by_cases Jo:n=3
   ·subst Jo
    simp +contextual only [go_sem,sevalprocAttr]
    refine iS [(b6,_),(b4,_)] wIs fD (fun hs lv3 fP=> ?_) (fun hs lv3 fP=> ?_)
    ·rw [if_pos ⟨rfl,hs⟩] at am
     unfold isM at am
     simp +contextual only [go_sem,aD,sevalprocAttr]
     refine iS [(b6,_),(b4,_)] AK fP (fun nW lv4 kx=> ?_) (fun nW lv4 kx=> ?_)
     ·rw [if_pos nW] at am
      simp +contextual only [go_sem,sevalprocAttr]
      intro b7 mU jD
      refine LY [(b6,_),(b4,_)] A0 am kx ?_
      intro M3 lv5 bG bC am iq
      simp only [nn,aJ,aK] at bC
      simp +contextual only [go_sem,sevalprocAttr,bC]
      refine aF (BG 16 (bL bG _ _ hx) T6) ?_
      rintro v M5 dN bS ⟨cs5,rfl,S6⟩
      obtain ⟨s5,rfl,xd,_⟩:=bZ S6
      simp only [aJ,aK] at bS
      simp +contextual only [go_sem,aD,sevalprocAttr,bS,xd]
      refine aF (BG 3 S6 T6) ?_
      rintro v M6 eO bW ⟨cs6,rfl,hx6⟩
      obtain ⟨s6,rfl,xQ,_⟩:=bZ hx6
      simp only [aJ,aK] at bW
      simp +contextual only [go_sem,sevalprocAttr,bW,gR,xQ]
      refine al (al (aQ A0 rfl rfl ?_))
      exact ⟨_,_,lv5,am,rfl,aH (dN.trans eO) (fun _ _ h=>h) iq,rfl,_,rfl,by rw [if_pos nW];exact hx6⟩
     ·rw [if_neg (by simp [nW])] at am
      simp +contextual only [go_sem,sevalprocAttr]
      intro b7 mU jD
      refine LY [(b6,_),(b4,_)] A0 am kx ?_
      intro M3 lv5 bG bC am iq
      simp only [nn,aJ,aK] at bC
      simp +contextual only [go_sem,sevalprocAttr,bC]
      refine aF (BG 16 (bL bG _ _ hx) T6) ?_
      rintro v M5 dN bS ⟨cs5,rfl,S6⟩
      obtain ⟨s5,rfl,xd,_⟩:=bZ S6
      simp only [aJ,aK] at bS
      simp +contextual only [go_sem,aD,sevalprocAttr,bS,gR,xd]
      refine al (al (aQ A0 rfl rfl ?_))
      exact ⟨_,_,lv5,am,rfl,aH dN (fun _ _ h=>h) iq,rfl,_,rfl,by rw [if_neg (by simp [nW])];exact S6⟩
    ·rw [if_neg (by simp [hs])] at am
     simp +contextual only [go_sem,aD,sevalprocAttr]
     refine gM (fun m e ds h=>ds=[]/\e 0=.pointer (some ⟨pb,0,none⟩)/\e 1=.int .i64 ((3:Nat):Int)/\e 4=.pointer (some ⟨b4,0,none⟩)/\e 5=.slice (some ⟨lb,lo,none⟩) 7 lc/\e 6=.pointer (some ⟨b6,0,none⟩)/\
      ∃ M' x' t' lv' c6 c4,bm M2 M'/\h=⟨T6,M',(b6,c6)::(b4,c4)::pL pb lv' en op,[]⟩/\c4.length=7/\RX M' x' c6/\RS M' gQ 3 t' lv'/\M' b6=none/\M' b4=none/\M' pb=none/\ff en (f+1) 3 op t=ky (ff en f (3+1) op) (ir 3) m x' t')
      ⟨r.length+1,rfl,by simp only [go_sem,sevalprocAttr],by simp only [go_sem,sevalprocAttr],by simp only [go_sem,sevalprocAttr],by simp only [go_sem,sevalprocAttr],by simp only [go_sem,sevalprocAttr],M2,x,r,lv3,_,_,bm.rfl',rfl,rfl,hx,fP,pA,aZ.1,aZ.2,am⟩ ?_
     rintro m e ds h ⟨rfl,e0,e1,e4,e5,e6,M3,x',t',lv',c6,c4,bG,rfl,hc4,zA,jL,n6,n4,np,am⟩
     obtain ⟨s',rfl,qW,_⟩:=bZ zA
     obtain ⟨q0,q1,q2,q3,q4,q5,q6,rfl⟩:=Dp hc4
     have k0:=ay (bh.trans bG) g0
     have k1:=ay (bh.trans bG) g1
     have k2:=ay (bh.trans bG) g2
     have acl:=aH (bh.trans bG) (fun _ _ h=>h) hsg
     cases m with
     | zero=>exact (cm (am.trans rfl)).elim
     | succ m=>
      simp only [ky] at am
      simp +contextual only [go_sem,aD,sevalprocAttr,e0,e1,e5,k0]
      refine dF [(b6,_),(b4,_)] (tP jL acl T6) ?_ (fun _ _ _ _ _ _ h=>h.elim)
      rintro v M4 L4 dz hk4 de ⟨rfl,rfl,lv5,rfl,iq⟩
      cases hj:bE (ir 3).signs t' with
      | none=>
       rw [hj] at am iq
       simp only [Hi,Hj] at am iq ⊢
       simp +contextual only [go_sem,aD,sevalprocAttr,e4,e6,n6,n4,gR,qW]
       refine al (al (aQ A0 rfl rfl ?_))
       exact ⟨x',t',lv5,am,rfl,iq,rfl,_,rfl,zA⟩
      | some j=>
       rw [hj] at am iq
       simp only [Hi,Hj] at am iq ⊢
       have um:=zE hj
       have DQ:¬ (j:Int)<0:=by omega
       have hwk:IntKind.i64.wrap ((ir 3).kind+(j:Int))=(ir 3).kind+(j:Int):=bJ (by omega) (by omega)
       simp +contextual only [go_sem,aD,sevalprocAttr,DQ]
       refine eG ⟨T,M4,[(b6,_)],[]⟩ (eZ [] bm.rfl' n6 trivial) ?_
       simp +contextual only [go_sem,sevalprocAttr,e0,e1,e5,e6,k1,n6,hwk]
       refine uA [(b6,_),(b4,_)] A0 am cm (fun h=>ih (3+1) op M4 t'.tail lv5 T6 (by omega) h0 h1 ((lM.ext bh).ext bG) iq h) ?_
       rintro v M5 y r5 lv6 dN bS am mH ⟨cs5,rfl,hy⟩
       simp only [nn,aJ,aK] at bS
       simp +contextual only [go_sem,sevalprocAttr]
       refine ⟨eZ [] dN bS.1 trivial,?_⟩
       refine aF (IS ((ir 3).kind+(j:Int)) (bL dN _ _ zA) hy T6) ?_
       rintro v M6 eO bW ⟨cs6,rfl,LG⟩
       obtain ⟨s6,rfl,xQ,_⟩:=bZ LG
       simp only [aJ,aK] at bW
       have k2':=ay (dN.trans eO) k2
       simp +contextual only [go_sem,sevalprocAttr]
       refine ⟨eZ [] (dN.trans eO) bW.1 trivial,?_⟩
       simp +contextual only [go_sem,aD,sevalprocAttr,e1,e4,e5,e6,bW,gR,xQ,k2']
       by_cases ho:(ir 3).once=true
       ·rw [if_pos ho] at am
        simp +contextual only [go_sem,sevalprocAttr,ho]
        refine al (al (aQ A0 rfl rfl ?_))
        exact ⟨_,r5,lv6,am,rfl,aH eO (fun _ _ h=>h) mH,rfl,_,rfl,LG⟩
       ·rw [if_neg ho] at am
        simp +contextual only [go_sem,sevalprocAttr,ho]
        rw [eL]
        refine aC ⟨m,by omega,rfl,?_,?_,?_,?_,?_,M6,_,r5,lv6,_,_,(bG.trans dN).trans eO,rfl,rfl,LG,aH eO (fun _ _ h=>h) mH,bW.1,bW.2.1,bW.2.2,am⟩
        all_goals simp only [e0,e1,e4,e5,e6,go_sem,sevalprocAttr]
   ·rw [if_neg (fun h=>Jo h.1)] at am
    simp +contextual only [go_sem,sevalprocAttr,Jo]
    refine gM (fun m e ds h=>ds=[]/\e 0=.pointer (some ⟨pb,0,none⟩)/\e 1=.int .i64 (n:Int)/\e 4=.pointer (some ⟨b4,0,none⟩)/\e 5=.slice (some ⟨lb,lo,none⟩) 7 lc/\e 6=.pointer (some ⟨b6,0,none⟩)/\
     ∃ M' x' t' lv' c6 c4,bm M2 M'/\h=⟨T6,M',(b6,c6)::(b4,c4)::pL pb lv' en op,[]⟩/\c4.length=7/\RX M' x' c6/\RS M' gQ 3 t' lv'/\M' b6=none/\M' b4=none/\M' pb=none/\ff en (f+1) n op t=ky (ff en f (n+1) op) (ir n) m x' t')
     ⟨r.length+1,rfl,by simp only [go_sem,sevalprocAttr],by simp only [go_sem,sevalprocAttr],by simp only [go_sem,sevalprocAttr],by simp only [go_sem,sevalprocAttr],by simp only [go_sem,sevalprocAttr],M2,x,r,lv2,_,_,bm.rfl',rfl,rfl,hx,fD,pA,aZ.1,aZ.2,am⟩ ?_
    rintro m e ds h ⟨rfl,e0,e1,e4,e5,e6,M3,x',t',lv',c6,c4,bG,rfl,hc4,zA,jL,n6,n4,np,am⟩
    obtain ⟨s',rfl,qW,_⟩:=bZ zA
    obtain ⟨q0,q1,q2,q3,q4,q5,q6,rfl⟩:=Dp hc4
    have k0:=ay (bh.trans bG) g0
    have k1:=ay (bh.trans bG) g1
    have k2:=ay (bh.trans bG) g2
    have acl:=aH (bh.trans bG) (fun _ _ h=>h) hsg
    cases m with
    | zero=>exact (cm (am.trans rfl)).elim
    | succ m=>
     simp only [ky] at am
     simp +contextual only [go_sem,aD,sevalprocAttr,e0,e1,e5,lu,k0]
     refine dF [(b6,_),(b4,_)] (tP jL acl T6) ?_ (fun _ _ _ _ _ _ h=>h.elim)
     rintro v M4 L4 dz hk4 de ⟨rfl,rfl,lv5,rfl,iq⟩
     cases hj:bE (ir n).signs t' with
     | none=>
      rw [hj] at am iq
      simp only [Hi,Hj] at am iq ⊢
      simp +contextual only [go_sem,aD,sevalprocAttr,e4,e6,n6,n4,gR,qW]
      refine al (al (aQ A0 rfl rfl ?_))
      exact ⟨x',t',lv5,am,rfl,iq,rfl,_,rfl,zA⟩
     | some j=>
      rw [hj] at am iq
      simp only [Hi,Hj] at am iq ⊢
      have um:=zE hj
      have DQ:¬ (j:Int)<0:=by omega
      have hwk:IntKind.i64.wrap ((ir n).kind+(j:Int))=(ir n).kind+(j:Int):=bJ (by omega) (by omega)
      simp +contextual only [go_sem,aD,sevalprocAttr,DQ]
      refine eG ⟨T,M4,[(b6,_)],[]⟩ (eZ [] bm.rfl' n6 trivial) ?_
      simp +contextual only [go_sem,sevalprocAttr,e0,e1,e5,e6,lu,k1,n6,hwk,aA n (by omega)]
      refine uA [(b6,_),(b4,_)] A0 am cm (fun h=>ih (n+1) op M4 t'.tail lv5 T6 (by omega) h0 h1 ((lM.ext bh).ext bG) iq h) ?_
      rintro v M5 y r5 lv6 dN bS am mH ⟨cs5,rfl,hy⟩
      simp only [nn,aJ,aK] at bS
      simp +contextual only [go_sem,sevalprocAttr]
      refine ⟨eZ [] dN bS.1 trivial,?_⟩
      refine aF (IS ((ir n).kind+(j:Int)) (bL dN _ _ zA) hy T6) ?_
      rintro v M6 eO bW ⟨cs6,rfl,LG⟩
      obtain ⟨s6,rfl,xQ,_⟩:=bZ LG
      simp only [aJ,aK] at bW
      have k2':=ay (dN.trans eO) k2
      simp +contextual only [go_sem,sevalprocAttr]
      refine ⟨eZ [] (dN.trans eO) bW.1 trivial,?_⟩
      simp +contextual only [go_sem,aD,sevalprocAttr,e1,e4,e5,e6,lu,bW,gR,xQ,k2']
      by_cases ho:(ir n).once=true
      ·rw [if_pos ho] at am
       simp +contextual only [go_sem,sevalprocAttr,ho]
       refine al (al (aQ A0 rfl rfl ?_))
       exact ⟨_,r5,lv6,am,rfl,aH eO (fun _ _ h=>h) mH,rfl,_,rfl,LG⟩
      ·rw [if_neg ho] at am
       simp +contextual only [go_sem,sevalprocAttr,ho]
       rw [eL]
       refine aC ⟨m,by omega,rfl,?_,?_,?_,?_,?_,M6,_,r5,lv6,_,_,(bG.trans dN).trans eO,rfl,rfl,LG,aH eO (fun _ _ h=>h) mH,bW.1,bW.2.1,bW.2.2,am⟩
       all_goals simp only [e0,e1,e4,e5,e6,go_sem,sevalprocAttr]
abbrev wAs:Bs:=[97,115]
abbrev wOn:Bs:=[111,110]
abbrev C0:Bs:=[106,111,105,110]
abbrev agZ:Bs:=[115,101,109,105]
abbrev agS:Bs:=[97,110,116,105]
abbrev agY:Bs:=[108,101,102,116]
abbrev adi:Bs:=[117,110,105,111,110]
abbrev YS:Bs:=[101,120,99,101,112,116]
abbrev adf:Bs:=[97,108,108]
abbrev agU:Bs:=[98,111,111,108]
abbrev amc:Bs:=[105,110,116]
abbrev ag1:Bs:=[116,101,120,116]
def lq:X:=nZ 0 []
theorem kX {M:aR}:RX M lq [.int .i64 0,.int .i64 0,.int .i64 0,st [],st [],st [],.slice none 0 0]:=ET ⟨Nat.zero_le _,[],.inl ⟨_,_,rfl,rfl,fun _=>rfl⟩,rfl⟩
def asM (en:Int)(t:List Tk):Rs Bs:=if bH wAs t=true then iV en t.tail else .ok [] t
def Cg (en:Int)(ex:List Tk ->Rs X)(t:List Tk):Rs It:=(ex t).bind fun x t=>if bH wAs t=true then (iV en t.tail).bind fun n t=> .ok ⟨x,n⟩ t else .ok ⟨x,[]⟩ t
def Zb (i:It)(v:Value)(M:aR):Prop:=∃ cs,v=.agg ⟨cs⟩/\AP M i cs
theorem WY {M:aR}{pb:Nat}{aX:List Tk}{lv:Value}{en op:Int}{ex:List Tk ->Rs X}(hg:eS M)(hl:RS M gQ 3 aX lv)(iL:Y5 en pb ex op)(cm:Cg en ex aX≠ .out)(T:Tm):
 bU Tryz.prog 120 [.pointer (some ⟨pb,0,none⟩)] T M (pL pb lv en op) [] (fR pb en op Zb (Cg en ex aX)) (gN pb en (Cg en ex aX)):=by
 refine az ah5 rfl rfl ?_
 intro bj _
 simp only [aK] at bj
 simp +contextual only [go_sem,sevalprocAttr]
 intro b2 T2 dO fz dA ef
 refine cy [(b2,_)] dA rfl cm (fun h=>iL M _ lv T2 hg hl h) ?_
 rintro v M1 x t lv1 aW bD am gZ ⟨cs,rfl,hx⟩
 obtain ⟨s,rfl,h1,_⟩:=bZ hx
 simp only [nn,aJ,aK] at bD
 simp +contextual only [go_sem,sevalprocAttr,h1]
 intro b3 T3 gK cZ fU gB
 have hT:=dA.trans fU
 refine iS [(b3,_),(b2,_)] wAs gZ (fun hs lv2 fD=> ?_) (fun hs lv2 fD=> ?_)
 ·rw [if_pos hs] at am
  simp +contextual only [go_sem,aD,sevalprocAttr]
  refine cy [(b3,_),(b2,_)] hT am cm (fun _=>iA (hg.ext aW) fD T3) ?_
  rintro v M2 n t2 lv3 bh aZ am fP rfl
  simp only [nn,aJ,aK] at aZ
  simp +contextual only [go_sem,sevalprocAttr,aZ,cZ,h1]
  refine al (al (aQ hT rfl rfl ?_))
  exact ⟨_,_,lv3,am,rfl,fP,rfl,_,rfl,_,bL bh _ _ hx,rfl⟩
 ·rw [if_neg (by simp [hs])] at am
  simp +contextual only [go_sem,aD,sevalprocAttr,bD,gK,cZ,h1]
  refine al (al (aQ hT rfl rfl ?_))
  exact ⟨_,_,lv2,am,rfl,fD,rfl,_,rfl,_,hx,rfl⟩
def mZ (en:Int)(ex:List Tk ->Rs X)(k:Int)(t:List Tk):Rs So:=(iV en t).bind fun n t=>(asM en t).bind fun a t=>
 if k≠1 then (cj en [wOn] t).bind fun _ t=>(ex t).bind fun x t=> .ok ⟨k,n,a,x⟩ t else .ok ⟨k,n,a,lq⟩ t
def aeM (i:So)(v:Value)(M:aR):Prop:=∃ cs,v=.agg ⟨cs⟩/\EQ M i cs
theorem yQ {M:aR}{pb:Nat}{aX:List Tk}{lv:Value}{en op k:Int}{ex:List Tk ->Rs X}(hg:eS M)(hl:RS M gQ 3 aX lv)(iL:Y5 en pb ex op)(cm:mZ en ex k aX≠ .out)(T:Tm):
 bU Tryz.prog 121 [.pointer (some ⟨pb,0,none⟩),.int .i64 k] T M (pL pb lv en op) [] (fR pb en op aeM (mZ en ex k aX)) (gN pb en (mZ en ex k aX)):=by
 refine az ah6 rfl rfl ?_
 intro bj _
 simp only [aK] at bj
 simp +contextual only [go_sem,sevalprocAttr]
 intro b2 T2 dO fz dA ef
 refine cy [(b2,_)] dA rfl cm (fun _=>iA hg hl T2) ?_
 rintro v M1 n t lv1 aW bD am gZ rfl
 simp only [nn,aJ,aK] at bD
 simp +contextual only [go_sem,sevalprocAttr]
 intro b3 T3 gK cZ fU gB
 have hT:=dA.trans fU
 refine iS [(b3,_),(b2,_)] wAs gZ (fun hs lv2 fD=> ?_) (fun hs lv2 fD=> ?_)
 ·unfold asM at am
  rw [if_pos hs] at am
  simp +contextual only [go_sem,aD,sevalprocAttr]
  refine cy [(b3,_),(b2,_)] hT am cm (fun _=>iA (hg.ext aW) fD T3) ?_
  rintro v M2 a t2 lv3 bh aZ am fP rfl
  simp only [nn,aJ,aK] at aZ
  by_cases hk:k=1
  ·subst hk
   rw [if_neg (fun h=>h rfl)] at am
   simp +contextual only [go_sem,aD,sevalprocAttr,aZ,cZ]
   refine al (al (aQ hT rfl rfl ?_))
   exact ⟨_,_,lv3,am,rfl,fP,rfl,_,rfl,_,kX,rfl⟩
  ·rw [if_pos hk] at am
   simp +contextual only [go_sem,aD,sevalprocAttr,hk]
   intro b4 eH em
   refine dU [(b3,_),(b2,_)] hT am fP ?_
   intro M3 lv4 bG bC am kx
   simp +contextual only [go_sem,sevalprocAttr]
   refine cy [(b3,_),(b2,_)] hT am cm (fun h=>iL M3 _ lv4 T3 (((hg.ext aW).ext bh).ext bG) kx h) ?_
   rintro v M4 x t4 lv5 dz de am iq ⟨cs,rfl,hx⟩
   obtain ⟨s,rfl,h1,_⟩:=bZ hx
   simp only [nn,aJ,aK] at de
   simp +contextual only [go_sem,sevalprocAttr,de,cZ,h1]
   refine al (al (aQ hT rfl rfl ?_))
   exact ⟨_,_,lv5,am,rfl,iq,rfl,_,rfl,_,hx,rfl⟩
 ·unfold asM at am
  rw [if_neg (by simp [hs])] at am
  by_cases hk:k=1
  ·subst hk
   simp only [Rs.bind] at am
   rw [if_neg (fun h=>h rfl)] at am
   simp +contextual only [go_sem,aD,sevalprocAttr,bD,gK,cZ]
   refine al (al (aQ hT rfl rfl ?_))
   exact ⟨_,_,lv2,am,rfl,fD,rfl,_,rfl,_,kX,rfl⟩
  ·have am:mZ en ex k aX=(cj en [wOn] t).bind fun _ t=>(ex t).bind fun x t=> .ok ⟨k,n,[],x⟩ t:=am.trans (if_pos hk)
   simp +contextual only [go_sem,aD,sevalprocAttr,hk]
   intro b4 eH em
   refine dU [(b3,_),(b2,_)] hT am fD ?_
   intro M3 lv4 bG bC am kx
   simp +contextual only [go_sem,sevalprocAttr]
   refine cy [(b3,_),(b2,_)] hT am cm (fun h=>iL M3 _ lv4 T3 ((hg.ext aW).ext bG) kx h) ?_
   rintro v M4 x t4 lv5 dz de am iq ⟨cs,rfl,hx⟩
   obtain ⟨s,rfl,h1,_⟩:=bZ hx
   simp only [nn,aJ,aK] at de
   simp +contextual only [go_sem,sevalprocAttr,de,cZ,h1]
   refine al (al (aQ hT rfl rfl ?_))
   exact ⟨_,_,lv5,am,rfl,iq,rfl,_,rfl,_,hx,rfl⟩
def mr:List Bs:=[C0,agZ,agS,agY]
def uw (en:Int)(t:List Tk):Rs Int:=match bE mr t with
 | none=> .ok 0 t
 | some j=>if j=0 then .ok 2 t.tail else (cj en [C0] t.tail).bind fun _ t=> .ok (2+j) t
def ei {en:Int}{l:List Bs}{t:List Tk}:cj en l t≠ .out:=by
 induction l generalizing t with
 | nil=>simp [cj]
 | cons s l ih=>
  simp only [cj]
  split
  ·exact ih
  ·simp
def Gi {en:Int}{t:List Tk}:uw en t≠ .out:=by
 unfold uw
 split
 ·simp
 ·split
  ·simp
  ·intro h
   cases hn:cj en [C0] t.tail with
   | out=>exact ei hn
   | ok a r=>rw [hn] at h;cases h
   | err e a=>rw [hn] at h;cases h
theorem K1 {M:aR}{pb:Nat}{aX:List Tk}{lv:Value}{en op:Int}(hl:RS M gQ 3 aX lv)(T:Tm):
 bU Tryz.prog 122 [.pointer (some ⟨pb,0,none⟩)] T M (pL pb lv en op) [] (fR pb en op (fun k v _=>v=.int .i64 k) (uw en aX)) (gN pb en (uw en aX)):=by
 refine az adZ rfl rfl ?_
 intro bj _
 simp only [aK] at bj
 simp +contextual only [go_sem,aD,sevalprocAttr]
 intro b4 eH em
 refine bR 4 7 [(0,.pointer (some ⟨pb,0,none⟩)),(5,.slice (some ⟨b4,0,none⟩) 4 4),(6,.int .i64 4)]
  (fun i e h=>(∃ M' lv',bm M M'/\h=⟨T,M',pL pb lv' en op,[]⟩/\M' b4=some (mr.map st)/\RS M' gQ 3 aX lv'/\M' pb=none)/\bE mr aX=(bE (mr.drop i) aX).map (·+i))
  0 (by omega) (by simp only [aE,go_sem,sevalprocAttr]) (by simp only [go_sem,sevalprocAttr]) (aU fun he hb bj=>aC ⟨⟨_,lv,he,rfl,hb,aH he (fun _ _ h=>h) hl,by simpa only [aK] using bj⟩,by simp⟩) ?_
 rintro i e h hi aI ht ⟨⟨M2,lv6,bh,rfl,hw,mH,hnp⟩,lu⟩
 simp only [aE] at aI
 by_cases aL:i<4
 ·have lN:i<mr.length:=aL
  have bK:mr.drop i=mr[i]::mr.drop (i+1):=dq lN
  rw [bK] at lu
  have hx:aN M2 ⟨b4,i,none⟩=some (st mr[i]):=by
   rw [bg hw,List.getElem?_map,gq lN]
   rfl
  have SK:(i:Int)<4:=by omega
  simp +contextual only [go_sem,aD,sevalprocAttr,aI,ht,SK,hx]
  refine iS [] mr[i] mH (fun hs lv7 pg=> ?_) (fun hs lv7 pg=> ?_)
  ·have HX:bE mr aX=some i:=by rw [lu];simp [bE,hs]
   have OG:IntKind.i64.wrap (2+(i:Int))=2+(i:Int):=bJ (by omega) (by omega)
   have hj:uw en aX=if i=0 then .ok 2 aX.tail else (cj en [C0] aX.tail).bind fun _ t=> .ok (2+(i:Int)) t:=by unfold uw;rw [HX]
   have hjw:(mr[i]=C0) ↔ i=0:=by
    have:∀ i (h:i<4),(mr[i]'h=C0) ↔ i=0:=by decide
    exact this i aL
   by_cases h0:i=0
   ·rw [if_pos h0] at hj
    have DQ:=hjw.2 h0
    simp +contextual only [go_sem,aD,sevalprocAttr,DQ,OG]
    refine aQ aG.rfl' rfl rfl ?_
    exact ⟨_,_,lv7,hj,rfl,pg,rfl,by simp [h0]⟩
   ·rw [if_neg h0] at hj
    have DQ:¬ mr[i]=[106,111,105,110]:=fun h=>h0 (hjw.1 h)
    simp +contextual only [go_sem,aD,sevalprocAttr,aI,DQ]
    intro b5 jz eg
    refine dU [] aG.rfl' hj pg ?_
    intro M3 lv8 bG bC am sU
    simp +contextual only [go_sem,sevalprocAttr,OG]
    refine aQ aG.rfl' rfl rfl ?_
    exact ⟨_,_,lv8,am,rfl,sU,rfl,rfl⟩
  ·simp +contextual only [go_sem,aD,sevalprocAttr,ht]
   refine bT aL ?_ ?_ ⟨⟨M2,lv7,bh,rfl,hw,pg,hnp⟩,?_⟩
   ·simp only [aE,aI,go_sem,sevalprocAttr]
   ·simp only [go_sem,sevalprocAttr,aA i (by omega)]
   ·rw [lu]
    simp only [bE,hs,Bool.false_eq_true,if_false,Option.map_map]
    congr 1
    funext n
    simp only [Function.comp];omega
 ·have:i=4:=by omega
  subst this
  have HX:bE mr aX=none:=by rw [lu];rfl
  have h33:¬ ((4:Nat):Int)<4:=by omega
  simp +contextual only [go_sem,aD,sevalprocAttr,aI,ht]
  refine aQ aG.rfl' rfl rfl ?_
  exact ⟨0,aX,lv6,by unfold uw;rw [HX],rfl,mH,rfl,rfl⟩
def xu:List Bs:=[adi,YS]
def Ek (t:List Tk):Rs Int:=match bE xu t with
 | none=> .ok 0 t
 | some k=>if bH adf t.tail=true then .ok (2*k+1) t.tail.tail else .ok (2*k+2) t.tail
def Mw {t:List Tk}:Ek t≠ .out:=by
 unfold Ek
 split
 ·simp
 ·split<;>simp
theorem Rz {M:aR}{pb:Nat}{aX:List Tk}{lv:Value}{en op:Int}(hl:RS M gQ 3 aX lv)(T:Tm):
 bU Tryz.prog 76 [.pointer (some ⟨pb,0,none⟩)] T M (pL pb lv en op) [] (fR pb en op (fun k v _=>v=.int .i64 k) (Ek aX)) (gN pb en (Ek aX)):=by
 refine az F76 rfl rfl ?_
 intro bj _
 simp only [aK] at bj
 simp +contextual only [go_sem,aD,sevalprocAttr]
 intro b4 eH em
 refine bR 2 7 [(0,.pointer (some ⟨pb,0,none⟩)),(5,.slice (some ⟨b4,0,none⟩) 2 2),(6,.int .i64 2)]
  (fun i e h=>(∃ M' lv',bm M M'/\h=⟨T,M',pL pb lv' en op,[]⟩/\M' b4=some (xu.map st)/\RS M' gQ 3 aX lv'/\M' pb=none)/\bE xu aX=(bE (xu.drop i) aX).map (·+i))
  0 (by omega) (by simp only [aE,go_sem,sevalprocAttr]) (by simp only [go_sem,sevalprocAttr]) (aU fun he hb bj=>aC ⟨⟨_,lv,he,rfl,hb,aH he (fun _ _ h=>h) hl,by simpa only [aK] using bj⟩,by simp⟩) ?_
 rintro i e h hi aI ht ⟨⟨M2,lv6,bh,rfl,hw,mH,hnp⟩,lu⟩
 simp only [aE] at aI
 by_cases aL:i<2
 ·have lN:i<xu.length:=aL
  have bK:xu.drop i=xu[i]::xu.drop (i+1):=dq lN
  rw [bK] at lu
  have hx:aN M2 ⟨b4,i,none⟩=some (st xu[i]):=by
   rw [bg hw,List.getElem?_map,gq lN]
   rfl
  have SK:(i:Int)<2:=by omega
  simp +contextual only [go_sem,aD,sevalprocAttr,aI,ht,SK,hx]
  refine iS [] xu[i] mH (fun hs lv7 pg=> ?_) (fun hs lv7 pg=> ?_)
  ·have HX:bE xu aX=some i:=by rw [lu];simp [bE,hs]
   have EF:IntKind.i64.wrap (2*(i:Int))=2*(i:Int):=bJ (by omega) (by omega)
   have hw2:IntKind.i64.wrap (2*(i:Int)+1)=2*(i:Int)+1:=bJ (by omega) (by omega)
   have hw3:IntKind.i64.wrap (2*(i:Int)+2)=2*(i:Int)+2:=bJ (by omega) (by omega)
   have hj:Ek aX=if bH adf aX.tail=true then .ok (2*(i:Int)+1) aX.tail.tail else .ok (2*(i:Int)+2) aX.tail:=by unfold Ek;rw [HX]
   simp +contextual only [go_sem,aD,sevalprocAttr,aI]
   refine iS [] adf pg (fun nW lv8 sU=> ?_) (fun nW lv8 sU=> ?_)
   ·rw [if_pos nW] at hj
    simp +contextual only [go_sem,aD,sevalprocAttr,EF,hw2]
    refine aQ aG.rfl' rfl rfl ?_
    exact ⟨_,_,lv8,hj,rfl,sU,rfl,rfl⟩
   ·rw [if_neg (by simp [nW])] at hj
    simp +contextual only [go_sem,aD,sevalprocAttr,EF,hw3]
    refine aQ aG.rfl' rfl rfl ?_
    exact ⟨_,_,lv8,hj,rfl,sU,rfl,rfl⟩
  ·simp +contextual only [go_sem,aD,sevalprocAttr,ht]
   refine bT aL ?_ ?_ ⟨⟨M2,lv7,bh,rfl,hw,pg,hnp⟩,?_⟩
   ·simp only [aE,aI,go_sem,sevalprocAttr]
   ·simp only [go_sem,sevalprocAttr,aA i (by omega)]
   ·rw [lu]
    simp only [bE,hs,Bool.false_eq_true,if_false,Option.map_map]
    congr 1
    funext n
    simp only [Function.comp];omega
 ·have:i=2:=by omega
  subst this
  have HX:bE xu aX=none:=by rw [lu];rfl
  have h33:¬ ((2:Nat):Int)<2:=by omega
  simp +contextual only [go_sem,aD,sevalprocAttr,aI,ht]
  refine aQ aG.rfl' rfl rfl ?_
  exact ⟨0,aX,lv6,by unfold Ek;rw [HX],rfl,mH,rfl,rfl⟩
def pi:List Bs:=[agU,amc,ag1]
def qR (en:Int)(t:List Tk):Rs Co:=(iV en t).bind fun n t=>match bE pi t with
 | none=> .err 2 (pm en t)
 | some k=> .ok ⟨n,2+k⟩ t.tail
def jv {en:Int}{t:List Tk}:iV en t≠ .out:=by
 cases t with
 | nil=>simp [iV]
 | cons t r=>
  simp only [iV]
  split
  ·split<;>simp
  ·simp
def yE {en:Int}{t:List Tk}:qR en t≠ .out:=by
 unfold qR
 cases hn:iV en t with
 | out=>exact (jv hn).elim
 | ok a r=>simp only [Rs.bind];split<;>simp
 | err e a=>simp [Rs.bind]
def Za (i:Co)(v:Value)(M:aR):Prop:=∃ cs,v=.agg ⟨cs⟩/\tF i cs
def NP {M:aR}{pb:Nat}{aX:List Tk}{lv:Value}{en op:Int}(hg:eS M)(hl:RS M gQ 3 aX lv)(T:Tm):
 bU Tryz.prog 44 [.pointer (some ⟨pb,0,none⟩)] T M (pL pb lv en op) [] (fR pb en op Za (qR en aX)) (gN pb en (qR en aX)):=by
 refine az F44 rfl rfl ?_
 intro bj _
 simp only [aK] at bj
 simp +contextual only [go_sem,sevalprocAttr]
 intro b2 T2 dO fz dA ef
 refine cy [(b2,_)] dA rfl yE (fun _=>iA hg hl T2) ?_
 rintro v M1 n t lv1 aW bD am gZ rfl
 simp only [nn,aJ,aK] at bD
 simp +contextual only [go_sem,aD,sevalprocAttr]
 intro b3 T3 gK cZ fU gB b4 eH em
 have hT:=dA.trans fU
 refine bR 3 11 [(0,.pointer (some ⟨pb,0,none⟩)),(2,.pointer (some ⟨b2,0,none⟩)),(3,.pointer (some ⟨b3,0,none⟩)),(9,.slice (some ⟨b4,0,none⟩) 3 3),(10,.int .i64 3)]
  (fun i e h=>(∃ M' lv',bm M1 M'/\h=⟨T3,M',(b3,[.string (bs n),.int .i64 0])::(b2,[.string (bs []),.int .i64 0])::pL pb lv' en op,[]⟩/\M' b4=some (pi.map st)/\RS M' gQ 3 t lv'/\M' b3=none/\M' b2=none/\M' pb=none)/\bE pi t=(bE (pi.drop i) t).map (·+i))
  0 (by omega) (by simp only [aE,go_sem,sevalprocAttr]) (by simp only [go_sem,sevalprocAttr]) (aU fun he hb bj=>aC ⟨⟨_,lv1,he,rfl,hb,aH he (fun _ _ h=>h) gZ,bj.1,bj.2.1,by simpa only [aK] using bj.2.2⟩,by simp⟩) ?_
 rintro i e h hi aI ht ⟨⟨M2,lv6,bh,rfl,hw,mH,Jo,pt,hnp⟩,lu⟩
 simp only [aE] at aI
 by_cases aL:i<3
 ·have lN:i<pi.length:=aL
  have bK:pi.drop i=pi[i]::pi.drop (i+1):=dq lN
  rw [bK] at lu
  have hx:aN M2 ⟨b4,i,none⟩=some (st pi[i]):=by
   rw [bg hw,List.getElem?_map,gq lN]
   rfl
  have SK:(i:Int)<3:=by omega
  simp +contextual only [go_sem,aD,sevalprocAttr,aI,ht,SK,hx]
  refine iS [(b3,_),(b2,_)] pi[i] mH (fun hs lv7 pg=> ?_) (fun hs lv7 pg=> ?_)
  ·have HX:bE pi t=some i:=by rw [lu];simp [bE,hs]
   have OG:IntKind.i64.wrap (2+(i:Int))=2+(i:Int):=bJ (by omega) (by omega)
   rw [HX] at am
   simp +contextual only [go_sem,aD,sevalprocAttr,aI,OG,Jo,pt,cZ]
   refine al (al (aQ hT rfl rfl ?_))
   exact ⟨_,_,lv7,am,rfl,pg,rfl,_,rfl,rfl⟩
  ·simp +contextual only [go_sem,aD,sevalprocAttr,ht]
   refine bT aL ?_ ?_ ⟨⟨M2,lv7,bh,rfl,hw,pg,Jo,pt,hnp⟩,?_⟩
   ·simp only [aE,aI,go_sem,sevalprocAttr]
   ·simp only [go_sem,sevalprocAttr,aA i (by omega)]
   ·rw [lu]
    simp only [bE,hs,Bool.false_eq_true,if_false,Option.map_map]
    congr 1
    funext n
    simp only [Function.comp];omega
 ·have:i=3:=by omega
  subst this
  have HX:bE pi t=none:=by rw [lu];rfl
  rw [HX] at am
  have h33:¬ ((3:Nat):Int)<3:=by omega
  simp +contextual only [go_sem,aD,sevalprocAttr,aI,ht]
  refine l4 [(b3,_),(b2,_)] mH ?_
  simp +contextual only [go_sem,sevalprocAttr]
  exact fI [(b3,_),(b2,_)] hT am
end Go.Proofs.YtcpjbohndglclaaGreatDoor
