import Derived.Test.YtmccpbcbofhmlaaGreatDoorProg
import Derived.Test.YtmccpbcbofhmlaaGreatDoorB
import Derived.Shelf.Strings.Builder1
import Derived.Shelf.Strings.Builder2
import Derived.Shelf.Small.Strs
import Derived.Shelf.Strconv.Itoa0
import Derived.Shelf.Strconv.Itoa1
import Derived.Shelf.LaysM
import Derived.Shelf.Strconv.Itoa2
import Derived.Shelf.Strconv.Itoa3
import Derived.Shelf.Strconv.Itoa4
import Derived.Shelf.Strconv.ParseIntEmpty
import Derived.Shelf.Strconv.Clone
import Derived.Shelf.Strconv.SyntaxError
import Derived.Shelf.LaysC
import Derived.Shelf.Strconv.ToError
import Derived.Shelf.Strconv.Lower
import Derived.Shelf.Strconv.ParseUint10
import Derived.Shelf.Strconv.ParseUint10Empty
import Derived.Shelf.Strconv.ParseUint10Any
import Derived.Shelf.Strconv.ParseInt10
import Derived.Shelf.Strconv.RangeError
import Derived.Shelf.Strconv.ToErrorRange
import Derived.Shelf.Strconv.ParseUintEmpty
import Derived.Shelf.Strconv.ParseUint10b64
import Derived.Shelf.Strconv.ParseUint10b32
import Derived.Shelf.Strconv.ParseUint10b16
import Derived.Shelf.Strconv.ParseUint10b8
import Derived.Shelf.Strconv.ParseUint10At
import Derived.Shelf.Strconv.ParseInt10At64
import Derived.Shelf.Strconv.ParseInt10At32
import Derived.Shelf.Strconv.ParseInt10At16
import Derived.Shelf.Strconv.ParseInt10At8
import Derived.Shelf.Strconv.ParseInt10All
import Derived.Shelf.Strconv.ParseIntPublic10
import Derived.Shelf.Strings.Search1
import Derived.Shelf.Strings.Search2
import Derived.Shelf.Strings.Search3
import Derived.Shelf.Strings.Count
import Derived.Shelf.Strings.Shaped
import Derived.Shelf.Strings.Prefix
import Derived.Shelf.Strings.Split
import Derived.Shelf.Strings.Fields
import Derived.Shelf.Strings.Replace
import Derived.Shelf.Unicode.Latin
import Derived.Shelf.Unicode.DecodeSlow
import Derived.Shelf.Unicode.Is16White
import Derived.Shelf.Unicode.IsSpaceAny
import Derived.Shelf.Unicode.Is16Any
import Derived.Shelf.Unicode.Is32Any
import Derived.Shelf.Unicode.ExclAny
import Derived.Lib.ParseIntB
set_option linter.all false
namespace Go.Proofs.YtmccpbcbofhmlaaGreatDoor
open Go Vc
theorem mx:Tryz.prog.follows .mixedOrders=true:=by kernel_rfl
theorem F6:FnF Tryz.prog 6 Tryz.f6 111 [(14,.take 1<| .take 3<| .take 4<| .take 5<| .take 6<| .eff 0 false (.eff 2 false (.eff 7 false (.eff 8 false (.take 9<| .done)<| .no)<| .no)<| .eff 7 false (.eff 2 false (.eff 8 false (.take 9<| .done)<| .no)<| .no)<| .no)<| .eff 7 false (.eff 0 false (.eff 2 false (.eff 8 false (.take 9<| .done)<| .no)<| .no)<| .no)<| .no),(19,.take 0<| .take 3<| .take 2<| .eff 1 false (.eff 4 true (.take 5<| .take 6<| .take 7<| .take 8<| .take 9<| .done)<| .no)<| .no),(20,.take 0<| .take 3<| .take 2<| .eff 1 false (.eff 4 true (.take 5<| .take 6<| .take 7<| .take 8<| .take 9<| .done)<| .no)<| .no)] [.tmp 8]:=bW mx Tryz.func6 (by kernel_rfl) (by kernel_rfl)
theorem F7:FnF Tryz.prog 7 Tryz.f7 99 [] [.tmp 2]:=bW mx Tryz.func7 (by kernel_rfl) (by kernel_rfl)
theorem F8:FnF Tryz.prog 8 Tryz.f8 6 [] [.tmp 2]:=bW mx Tryz.func8 (by kernel_rfl) (by kernel_rfl)
theorem F9:FnF Tryz.prog 9 Tryz.f9 76 [(18,.take 0<| .take 1<| .take 2<| .take 4<| .take 6<| .take 3<| .take 5<| .take 7<| .take 8<| .take 9<| .take 10<| .done)] [.tmp 2]:=bW mx Tryz.func9 (by kernel_rfl) (by kernel_rfl)
theorem Ug:FnF Tryz.prog 10 Tryz.f10 113 [(10,.take 0<| .take 2<| .take 3<| .take 1<| .take 4<| .take 5<| .take 6<| .take 7<| .eff 8 false (.eff 9 true (.done)<| .no)<| .no),(19,.take 0<| .take 2<| .take 3<| .take 1<| .take 4<| .take 6<| .eff 5 false (.eff 7 false (.take 8<| .eff 9 true (.done)<| .no)<| .no)<| .eff 7 false (.eff 5 false (.take 8<| .eff 9 true (.done)<| .no)<| .no)<| .no),(20,.take 0<| .take 2<| .eff 1 false (.eff 3 true (.take 4<| .take 5<| .take 6<| .take 7<| .eff 8 true (.done)<| .no)<| .no)<| .no),(22,.take 0<| .take 1<| .eff 2 false (.eff 3 false (.eff 4 true (.done)<| .no)<| .no)<| .no),(26,.take 1<| .take 2<| .take 3<| .take 5<| .take 0<| .take 4<| .take 6<| .eff 7 false (.eff 8 false (.eff 9 true (.done)<| .no)<| .no)<| .no),(28,.take 0<| .take 1<| .eff 2 false (.eff 3 true (.eff 4 true (.done)<| .no)<| .no)<| .no)] [.cell 4 42,.cell 5 43,.cell 6 32]:=bW mx Tryz.func10 (by kernel_rfl) (by kernel_rfl)
theorem F16:FnF Tryz.prog 16 Tryz.f16 56 [(2,.take 3<| .eff 0 false (.eff 1 false (.eff 2 false (.eff 4 false (.take 5<| .take 6<| .take 7<| .take 8<| .eff 9 false (.eff 10 true (.take 11<| .take 12<| .done)<| .no)<| .no)<| .eff 9 false (.eff 4 true (.take 5<| .take 6<| .take 7<| .take 8<| .eff 10 true (.take 11<| .take 12<| .done)<| .no)<| .no)<| .no)<| .eff 9 false (.eff 2 false (.eff 4 true (.take 5<| .take 6<| .take 7<| .take 8<| .eff 10 true (.take 11<| .take 12<| .done)<| .no)<| .no)<| .no)<| .no)<| .eff 9 false (.eff 1 false (.eff 2 false (.eff 4 true (.take 5<| .take 6<| .take 7<| .take 8<| .eff 10 true (.take 11<| .take 12<| .done)<| .no)<| .no)<| .no)<| .no)<| .no)<| .eff 9 false (.eff 0 false (.eff 1 false (.eff 2 false (.eff 4 true (.take 5<| .take 6<| .take 7<| .take 8<| .eff 10 true (.take 11<| .take 12<| .done)<| .no)<| .no)<| .no)<| .no)<| .no)<| .no)] [.tmp 0]:=bW mx Tryz.func16 (by kernel_rfl) (by kernel_rfl)
theorem F17:FnF Tryz.prog 17 Tryz.f17 50 [] [.tmp 4,.tmp 5]:=bW mx Tryz.func17 (by kernel_rfl) (by kernel_rfl)
theorem F18:FnF Tryz.prog 18 Tryz.f18 36 [] [.tmp 2]:=bW mx Tryz.func18 (by kernel_rfl) (by kernel_rfl)
theorem F20:FnF Tryz.prog 20 Tryz.f20 43 [(6,.take 1<| .take 0<| .eff 2 false (.eff 3 false (.eff 4 true (.eff 5 true (.done)<| .no)<| .no)<| .no)<| .no),(10,.take 0<| .take 1<| .take 2<| .eff 3 false (.eff 4 true (.done)<| .no)<| .no),(11,.take 0<| .take 1<| .eff 2 false (.eff 3 true (.done)<| .no)<| .no)] [.cell 2 68,.cell 3 62]:=bW mx Tryz.func20 (by kernel_rfl) (by kernel_rfl)
theorem F22:FnF Tryz.prog 22 Tryz.f22 37 [] [.tmp 2]:=bW mx Tryz.func22 (by kernel_rfl) (by kernel_rfl)
theorem F23:FnF Tryz.prog 23 Tryz.f23 31 [] [.tmp 6,.tmp 7]:=bW mx Tryz.func23 (by kernel_rfl) (by kernel_rfl)
theorem F24:FnF Tryz.prog 24 Tryz.f24 71 [(6,.take 0<| .take 1<| .take 2<| .take 3<| .take 5<| .take 6<| .take 7<| .take 8<| .take 4<| .take 9<| .take 10<| .take 11<| .take 12<| .take 13<| .take 14<| .take 15<| .take 18<| .take 19<| .take 20<| .take 21<| .take 16<| .take 17<| .take 22<| .take 23<| .take 24<| .take 25<| .done),(11,.take 0<| .take 1<| .take 2<| .take 3<| .take 5<| .take 8<| .take 9<| .take 10<| .take 11<| .take 13<| .take 4<| .take 6<| .take 7<| .take 12<| .take 14<| .take 15<| .take 16<| .done)] [.tmp 4]:=bW mx Tryz.func24 (by kernel_rfl) (by kernel_rfl)
theorem F25:FnF Tryz.prog 25 Tryz.f25 152 [] [.tmp 2]:=bW mx Tryz.func25 (by kernel_rfl) (by kernel_rfl)
theorem F26:FnF Tryz.prog 26 Tryz.f26 78 [] [.tmp 6]:=bW mx Tryz.func26 (by kernel_rfl) (by kernel_rfl)
theorem F27:FnF Tryz.prog 27 Tryz.f27 37 [] [.tmp 2]:=bW mx Tryz.func27 (by kernel_rfl) (by kernel_rfl)
theorem F28:FnF Tryz.prog 28 Tryz.f28 15 [(7,.take 0<| .take 1<| .take 2<| .eff 3 false (.eff 4 false (.eff 5 true (.done)<| .no)<| .no)<| .no)] []:=bW mx Tryz.func28 (by kernel_rfl) (by kernel_rfl)
theorem F29:FnF Tryz.prog 29 Tryz.f29 209 [(3,.take 0<| .take 1<| .take 2<| .take 3<| .take 5<| .eff 4 false (.eff 6 true (.eff 7 true (.done)<| .no)<| .no)<| .no),(29,.take 0<| .take 2<| .take 3<| .take 4<| .take 5<| .take 7<| .take 1<| .take 6<| .take 8<| .take 9<| .eff 10 false (.eff 11 false (.eff 12 false (.take 13<| .eff 14 true (.done)<| .no)<| .no)<| .no)<| .no)] [.cell 4 42,.tmp 5]:=bW mx Tryz.func29 (by kernel_rfl) (by kernel_rfl)
theorem F30:FnF Tryz.prog 30 Tryz.f30 33 [(7,.take 0<| .take 2<| .eff 1 false (.eff 3 true (.eff 4 true (.eff 5 true (.done)<| .no)<| .no)<| .no)<| .no)] [.cell 6 42]:=bW mx Tryz.func30 (by kernel_rfl) (by kernel_rfl)
theorem F31:FnF Tryz.prog 31 Tryz.f31 22 [] [.tmp 4]:=bW mx Tryz.func31 (by kernel_rfl) (by kernel_rfl)
theorem F37:FnF Tryz.prog 37 Tryz.f37 76 [(13,.take 4<| .take 0<| .take 1<| .take 2<| .take 3<| .take 5<| .take 6<| .take 7<| .take 8<| .eff 9 false (.take 10<| .eff 11 true (.done)<| .no)<| .no)] [.cell 4 38]:=bW mx Tryz.func37 (by kernel_rfl) (by kernel_rfl)
theorem F38:FnF Tryz.prog 38 Tryz.f38 26 [] [.cell 2 27,.tmp 3]:=bW mx Tryz.func38 (by kernel_rfl) (by kernel_rfl)
theorem F39:FnF Tryz.prog 39 Tryz.f39 25 [] [.cell 4 52]:=bW mx Tryz.func39 (by kernel_rfl) (by kernel_rfl)
theorem F40:FnF Tryz.prog 40 Tryz.f40 200 [(20,.take 0<| .take 1<| .take 2<| .take 3<| .take 4<| .take 5<| .take 6<| .take 7<| .take 8<| .take 10<| .take 11<| .take 12<| .take 9<| .take 13<| .take 14<| .take 15<| .take 16<| .done),(22,.take 0<| .take 1<| .take 2<| .take 4<| .take 5<| .take 6<| .take 3<| .take 7<| .take 8<| .take 9<| .take 10<| .take 11<| .done),(24,.take 0<| .take 1<| .take 3<| .take 4<| .take 6<| .take 7<| .take 8<| .take 2<| .take 5<| .take 9<| .eff 10 false (.take 11<| .take 12<| .done)<| .no),(26,.take 0<| .take 1<| .take 3<| .take 4<| .take 5<| .take 2<| .take 6<| .eff 7 true (.take 8<| .take 9<| .take 10<| .take 11<| .done)<| .no),(29,.take 0<| .take 1<| .take 3<| .take 4<| .take 2<| .take 5<| .eff 6 true (.take 7<| .take 8<| .take 9<| .take 10<| .done)<| .no),(36,.take 0<| .take 1<| .take 3<| .take 4<| .take 2<| .take 5<| .eff 6 false (.eff 7 false (.take 8<| .done)<| .no)<| .no),(40,.take 0<| .take 1<| .take 3<| .take 4<| .take 5<| .take 6<| .take 2<| .take 7<| .eff 8 false (.take 9<| .take 10<| .done)<| .no)] [.tmp 6,.tmp 7]:=bW mx Tryz.func40 (by kernel_rfl) (by kernel_rfl)
theorem F41:FnF Tryz.prog 41 Tryz.f41 8 [] [.tmp 2]:=bW mx Tryz.func41 (by kernel_rfl) (by kernel_rfl)
theorem F42:FnF Tryz.prog 42 Tryz.f42 25 [] [.cell 2 62]:=bW mx Tryz.func42 (by kernel_rfl) (by kernel_rfl)
theorem F44:FnF Tryz.prog 44 Tryz.f44 8 [] [.tmp 2]:=bW mx Tryz.func44 (by kernel_rfl) (by kernel_rfl)
theorem F46:FnF Tryz.prog 46 Tryz.f46 13 [(7,.take 0<| .take 1<| .eff 2 false (.eff 3 true (.done)<| .no)<| .no)] []:=bW mx Tryz.func46 (by kernel_rfl) (by kernel_rfl)
theorem F47:FnF Tryz.prog 47 Tryz.f47 38 [] [.tmp 2]:=bW mx Tryz.func47 (by kernel_rfl) (by kernel_rfl)
theorem F48:FnF Tryz.prog 48 Tryz.f48 9 [] []:=bW mx Tryz.func48 (by kernel_rfl) (by kernel_rfl)
theorem F49:FnF Tryz.prog 49 Tryz.f49 20 [] [.tmp 2]:=bW mx Tryz.func49 (by kernel_rfl) (by kernel_rfl)
theorem F50:FnF Tryz.prog 50 Tryz.f50 82 [] [.cell 2 67]:=bW mx Tryz.func50 (by kernel_rfl) (by kernel_rfl)
theorem F51:FnF Tryz.prog 51 Tryz.f51 20 [] []:=bW mx Tryz.func51 (by kernel_rfl) (by kernel_rfl)
theorem F53:FnF Tryz.prog 53 Tryz.f53 13 [] [.tmp 2]:=bW mx Tryz.func53 (by kernel_rfl) (by kernel_rfl)
theorem F54:FnF Tryz.prog 54 Tryz.f54 9 [] [.tmp 2]:=bW mx Tryz.func54 (by kernel_rfl) (by kernel_rfl)
theorem F55:FnF Tryz.prog 55 Tryz.f55 15 [] [.tmp 2]:=bW mx Tryz.func55 (by kernel_rfl) (by kernel_rfl)
theorem F56:FnF Tryz.prog 56 Tryz.f56 30 [] [.tmp 4]:=bW mx Tryz.func56 (by kernel_rfl) (by kernel_rfl)
theorem F57:FnF Tryz.prog 57 Tryz.f57 80 [] [.tmp 6,.tmp 7]:=bW mx Tryz.func57 (by kernel_rfl) (by kernel_rfl)
theorem F58:FnF Tryz.prog 58 Tryz.f58 15 [] [.tmp 4]:=bW mx Tryz.func58 (by kernel_rfl) (by kernel_rfl)
theorem F59:FnF Tryz.prog 59 Tryz.f59 13 [] [.tmp 2]:=bW mx Tryz.func59 (by kernel_rfl) (by kernel_rfl)
theorem F60:FnF Tryz.prog 60 Tryz.f60 48 [] [.tmp 2]:=bW mx Tryz.func60 (by kernel_rfl) (by kernel_rfl)
theorem F61:FnF Tryz.prog 61 Tryz.f61 113 [(19,.take 0<| .take 1<| .take 2<| .take 3<| .take 5<| .take 6<| .take 4<| .take 7<| .take 8<| .eff 9 false (.eff 10 false (.take 11<| .take 12<| .eff 13 true (.done)<| .no)<| .no)<| .no),(24,.take 0<| .take 1<| .take 2<| .take 3<| .take 4<| .take 6<| .take 7<| .eff 5 false (.eff 8 true (.take 9<| .eff 10 true (.done)<| .no)<| .no)<| .eff 8 false (.eff 5 false (.take 9<| .eff 10 true (.done)<| .no)<| .no)<| .no)] [.cell 4 42,.tmp 5]:=bW mx Tryz.func61 (by kernel_rfl) (by kernel_rfl)
theorem F62:FnF Tryz.prog 62 Tryz.f62 9 [] [.cell 4 42]:=bW mx Tryz.func62 (by kernel_rfl) (by kernel_rfl)
theorem F63:FnF Tryz.prog 63 Tryz.f63 9 [] [.tmp 4]:=bW mx Tryz.func63 (by kernel_rfl) (by kernel_rfl)
theorem F64:FnF Tryz.prog 64 Tryz.f64 5 [] [.tmp 2]:=bW mx Tryz.func64 (by kernel_rfl) (by kernel_rfl)
theorem F65:FnF Tryz.prog 65 Tryz.f65 15 [] [.tmp 2]:=bW mx Tryz.func65 (by kernel_rfl) (by kernel_rfl)
theorem F66:FnF Tryz.prog 66 Tryz.f66 5 [] []:=bW mx Tryz.func66 (by kernel_rfl) (by kernel_rfl)
theorem F67:FnF Tryz.prog 67 Tryz.f67 23 [] [.tmp 4]:=bW mx Tryz.func67 (by kernel_rfl) (by kernel_rfl)
theorem F68:FnF Tryz.prog 68 Tryz.f68 6 [] [.cell 2 42]:=bW mx Tryz.func68 (by kernel_rfl) (by kernel_rfl)
theorem F76:FnF Tryz.prog 76 Tryz.f76 19 [] [.tmp 4]:=bW mx Tryz.func76 (by kernel_rfl) (by kernel_rfl)
theorem F77:FnF Tryz.prog 77 Tryz.f77 6 [] [.tmp 3]:=bW mx Tryz.func77 (by kernel_rfl) (by kernel_rfl)
theorem F78:FnF Tryz.prog 78 Tryz.f78 62 [(1,.take 0<| .take 1<| .take 2<| .take 4<| .take 5<| .take 6<| .take 3<| .take 7<| .take 8<| .done),(5,.take 0<| .take 1<| .take 2<| .take 5<| .take 6<| .take 7<| .take 3<| .take 8<| .eff 4 false (.eff 9 false (.take 10<| .take 11<| .done)<| .no)<| .no),(7,.take 0<| .take 1<| .take 2<| .take 4<| .take 5<| .take 6<| .take 3<| .take 7<| .take 8<| .take 9<| .take 10<| .take 11<| .take 12<| .take 14<| .take 15<| .take 16<| .take 13<| .take 17<| .take 18<| .take 19<| .take 20<| .done),(8,.take 0<| .take 1<| .take 2<| .take 4<| .take 5<| .take 6<| .take 3<| .take 7<| .eff 8 true (.take 9<| .done)<| .no)] [.tmp 4]:=bW mx Tryz.func78 (by kernel_rfl) (by kernel_rfl)
theorem F79:FnF Tryz.prog 79 Tryz.f79 65 [(5,.take 0<| .take 1<| .take 2<| .take 4<| .take 5<| .take 6<| .take 3<| .take 7<| .take 8<| .eff 9 false (.take 10<| .eff 11 true (.done)<| .no)<| .no),(6,.take 0<| .take 1<| .take 2<| .take 4<| .take 5<| .take 6<| .take 3<| .take 7<| .take 8<| .take 9<| .take 10<| .eff 11 false (.eff 12 false (.take 13<| .eff 14 true (.done)<| .no)<| .no)<| .no),(7,.take 0<| .take 1<| .take 2<| .take 5<| .take 6<| .take 7<| .take 3<| .take 4<| .take 8<| .take 9<| .take 10<| .take 11<| .take 12<| .take 13<| .take 14<| .eff 15 true (.done)<| .no)] [.cell 4 38]:=bW mx Tryz.func79 (by kernel_rfl) (by kernel_rfl)
theorem F80:FnF Tryz.prog 80 Tryz.f80 50 [(5,.take 0<| .take 2<| .take 3<| .take 4<| .take 1<| .take 5<| .take 6<| .take 7<| .take 8<| .take 9<| .take 10<| .take 11<| .take 12<| .take 13<| .take 14<| .take 16<| .take 17<| .take 18<| .take 15<| .take 19<| .take 20<| .take 21<| .take 22<| .done)] [.tmp 4]:=bW mx Tryz.func80 (by kernel_rfl) (by kernel_rfl)
theorem F81:FnF Tryz.prog 81 Tryz.f81 20 [] [.tmp 2]:=bW mx Tryz.func81 (by kernel_rfl) (by kernel_rfl)
theorem F82:FnF Tryz.prog 82 Tryz.f82 24 [] [.tmp 4]:=bW mx Tryz.func82 (by kernel_rfl) (by kernel_rfl)
theorem F83:FnF Tryz.prog 83 Tryz.f83 35 [] [.tmp 4,.tmp 5]:=bW mx Tryz.func83 (by kernel_rfl) (by kernel_rfl)
theorem F84:FnF Tryz.prog 84 Tryz.f84 51 [] [.tmp 4,.tmp 5]:=bW mx Tryz.func84 (by kernel_rfl) (by kernel_rfl)
theorem F85:FnF Tryz.prog 85 Tryz.f85 72 [(1,.take 0<| .take 1<| .take 2<| .take 3<| .take 4<| .take 5<| .take 6<| .take 7<| .take 8<| .take 11<| .take 12<| .take 13<| .take 9<| .take 10<| .take 14<| .take 15<| .take 16<| .take 17<| .take 18<| .done)] [.tmp 4,.tmp 5]:=bW mx Tryz.func85 (by kernel_rfl) (by kernel_rfl)
theorem F86:FnF Tryz.prog 86 Tryz.f86 36 [] [.tmp 2]:=bW mx Tryz.func86 (by kernel_rfl) (by kernel_rfl)
theorem F87:FnF Tryz.prog 87 Tryz.f87 150 [] [.tmp 2]:=bW mx Tryz.func87 (by kernel_rfl) (by kernel_rfl)
theorem F93:FnF Tryz.prog 93 Tryz.f93 102 [] [.cell 4 199,.tmp 5]:=bW mx Tryz.func93 (by kernel_rfl) (by kernel_rfl)
theorem F94:FnF Tryz.prog 94 Tryz.f94 17 [] [.tmp 4]:=bW mx Tryz.func94 (by kernel_rfl) (by kernel_rfl)
theorem F95:FnF Tryz.prog 95 Tryz.f95 45 [] [.tmp 2]:=bW mx Tryz.func95 (by kernel_rfl) (by kernel_rfl)
theorem F96:FnF Tryz.prog 96 Tryz.f96 65 [(7,.take 0<| .take 2<| .take 5<| .take 7<| .take 1<| .take 6<| .eff 3 false (.eff 4 false (.take 11<| .eff 8 false (.eff 9 false (.eff 10 false (.eff 12 true (.take 13<| .eff 14 true (.done)<| .no)<| .no)<| .no)<| .no)<| .no)<| .no)<| .no)] [.cell 2 27]:=bW mx Tryz.func96 (by kernel_rfl) (by kernel_rfl)
theorem F97:FnF Tryz.prog 97 Tryz.f97 24 [] [.tmp 6]:=bW mx Tryz.func97 (by kernel_rfl) (by kernel_rfl)
theorem F98:FnF Tryz.prog 98 Tryz.f98 28 [] [.cell 2 48]:=bW mx Tryz.func98 (by kernel_rfl) (by kernel_rfl)
theorem F99:FnF Tryz.prog 99 Tryz.f99 24 [] [.tmp 6]:=bW mx Tryz.func99 (by kernel_rfl) (by kernel_rfl)
theorem agV:FnF Tryz.prog 100 Tryz.f100 14 [] [.tmp 2]:=bW mx Tryz.func100 (by kernel_rfl) (by kernel_rfl)
theorem ahj:FnF Tryz.prog 101 Tryz.f101 7 [] [.cell 2 31]:=bW mx Tryz.func101 (by kernel_rfl) (by kernel_rfl)
theorem ajj:FnF Tryz.prog 102 Tryz.f102 31 [] [.tmp 4]:=bW mx Tryz.func102 (by kernel_rfl) (by kernel_rfl)
theorem Py:FnF Tryz.prog 103 Tryz.f103 9 [] [.tmp 2,.tmp 3]:=bW mx Tryz.func103 (by kernel_rfl) (by kernel_rfl)
theorem Zi:FnF Tryz.prog 104 Tryz.f104 200 [(3,.take 0<| .take 1<| .take 3<| .take 4<| .take 5<| .take 7<| .take 8<| .take 2<| .take 6<| .take 9<| .eff 10 true (.take 11<| .take 12<| .take 13<| .take 14<| .done)<| .no),(5,.take 0<| .take 1<| .take 3<| .take 4<| .take 5<| .take 7<| .take 8<| .take 2<| .take 6<| .take 9<| .eff 10 true (.take 11<| .take 12<| .take 13<| .take 14<| .done)<| .no),(7,.take 0<| .take 1<| .take 3<| .take 4<| .take 6<| .take 7<| .take 8<| .take 10<| .take 11<| .take 13<| .take 14<| .take 2<| .take 5<| .take 9<| .take 12<| .take 15<| .eff 16 true (.take 17<| .take 18<| .take 19<| .take 20<| .done)<| .no),(9,.take 0<| .take 1<| .take 3<| .take 4<| .take 6<| .take 7<| .take 8<| .take 10<| .take 11<| .take 13<| .take 14<| .take 2<| .take 5<| .take 9<| .take 12<| .take 15<| .eff 16 true (.take 17<| .take 18<| .take 19<| .take 20<| .done)<| .no),(11,.take 0<| .take 1<| .take 3<| .take 4<| .take 6<| .take 7<| .take 8<| .take 10<| .take 11<| .take 13<| .take 14<| .take 2<| .take 5<| .take 9<| .take 12<| .take 15<| .eff 16 true (.take 17<| .take 18<| .take 19<| .take 20<| .done)<| .no),(13,.take 0<| .take 1<| .take 3<| .take 4<| .take 6<| .take 7<| .take 8<| .take 10<| .take 11<| .take 13<| .take 14<| .take 2<| .take 5<| .take 9<| .take 12<| .take 15<| .eff 16 true (.take 17<| .take 18<| .take 19<| .take 20<| .done)<| .no),(15,.take 0<| .take 1<| .take 3<| .take 4<| .take 2<| .take 5<| .eff 6 true (.take 7<| .take 8<| .take 9<| .take 10<| .done)<| .no),(17,.take 0<| .take 1<| .take 3<| .take 4<| .take 2<| .take 5<| .eff 6 true (.take 7<| .take 8<| .take 9<| .take 10<| .done)<| .no),(23,.take 0<| .take 1<| .take 3<| .take 4<| .take 5<| .take 7<| .take 8<| .take 9<| .take 11<| .take 12<| .take 2<| .take 6<| .take 10<| .take 13<| .eff 14 true (.take 15<| .take 16<| .take 17<| .take 18<| .done)<| .no),(24,.take 0<| .take 1<| .take 3<| .take 4<| .take 5<| .take 7<| .take 8<| .take 9<| .take 11<| .take 12<| .take 2<| .take 6<| .take 10<| .take 13<| .eff 14 true (.take 15<| .take 16<| .take 17<| .take 18<| .done)<| .no)] [.tmp 6,.tmp 7]:=bW mx Tryz.func104 (by kernel_rfl) (by kernel_rfl)
theorem agP:FnF Tryz.prog 105 Tryz.f105 49 [(6,.take 0<| .take 2<| .take 1<| .take 3<| .eff 4 false (.take 5<| .done)<| .no),(8,.take 0<| .take 1<| .take 2<| .take 3<| .eff 4 false (.take 5<| .done)<| .no)] [.cell 4 42,.tmp 5]:=bW mx Tryz.func105 (by kernel_rfl) (by kernel_rfl)
theorem ae1:FnF Tryz.prog 106 Tryz.f106 9 [] [.tmp 4]:=bW mx Tryz.func106 (by kernel_rfl) (by kernel_rfl)
theorem ajY:FnF Tryz.prog 107 Tryz.f107 8 [] [.tmp 2]:=bW mx Tryz.func107 (by kernel_rfl) (by kernel_rfl)
theorem ahb:FnF Tryz.prog 108 Tryz.f108 19 [] [.tmp 4]:=bW mx Tryz.func108 (by kernel_rfl) (by kernel_rfl)
theorem ajz:FnF Tryz.prog 109 Tryz.f109 9 [] [.tmp 4]:=bW mx Tryz.func109 (by kernel_rfl) (by kernel_rfl)
theorem ad6:FnF Tryz.prog 110 Tryz.f110 4 [] [.tmp 2]:=bW mx Tryz.func110 (by kernel_rfl) (by kernel_rfl)
theorem ais:FnF Tryz.prog 119 Tryz.f119 18 [] [.cell 2 29]:=bW mx Tryz.func119 (by kernel_rfl) (by kernel_rfl)
theorem agH:FnF Tryz.prog 120 Tryz.f120 32 [] [.tmp 6]:=bW mx Tryz.func120 (by kernel_rfl) (by kernel_rfl)
theorem ahM:FnF Tryz.prog 121 Tryz.f121 6 [] [.tmp 4]:=bW mx Tryz.func121 (by kernel_rfl) (by kernel_rfl)
theorem af9:FnF Tryz.prog 122 Tryz.f122 37 [] [.tmp 4,.tmp 5]:=bW mx Tryz.func122 (by kernel_rfl) (by kernel_rfl)
theorem ajs:FnF Tryz.prog 123 Tryz.f123 60 [] [.tmp 4,.tmp 5]:=bW mx Tryz.func123 (by kernel_rfl) (by kernel_rfl)
theorem agc:FnF Tryz.prog 124 Tryz.f124 27 [] [.tmp 4]:=bW mx Tryz.func124 (by kernel_rfl) (by kernel_rfl)
theorem agj:FnF Tryz.prog 125 Tryz.f125 127 [(1,.take 0<| .take 1<| .take 2<| .take 3<| .take 4<| .take 5<| .take 6<| .take 7<| .take 8<| .take 9<| .take 10<| .take 11<| .take 12<| .take 13<| .take 14<| .take 15<| .take 16<| .take 17<| .take 20<| .take 21<| .take 22<| .take 18<| .take 19<| .take 23<| .take 24<| .take 25<| .take 26<| .take 27<| .take 28<| .take 29<| .take 30<| .take 31<| .take 32<| .take 33<| .take 34<| .take 35<| .take 36<| .take 37<| .take 38<| .take 39<| .take 40<| .take 41<| .take 42<| .take 43<| .take 44<| .take 45<| .take 46<| .take 47<| .take 48<| .take 49<| .take 50<| .done)] [.tmp 2]:=bW mx Tryz.func125 (by kernel_rfl) (by kernel_rfl)
theorem Pg:FnF Tryz.prog 126 Tryz.f126 15 [] [.tmp 2]:=bW mx Tryz.func126 (by kernel_rfl) (by kernel_rfl)
theorem agf:FnF Tryz.prog 127 Tryz.f127 33 [] [.tmp 2]:=bW mx Tryz.func127 (by kernel_rfl) (by kernel_rfl)
theorem ah2:FnF Tryz.prog 128 Tryz.f128 6 [] [.tmp 2]:=bW mx Tryz.func128 (by kernel_rfl) (by kernel_rfl)
theorem ajW:FnF Tryz.prog 129 Tryz.f129 17 [] [.tmp 4]:=bW mx Tryz.func129 (by kernel_rfl) (by kernel_rfl)
theorem aeB:FnF Tryz.prog 136 Tryz.f136 40 [(11,.take 0<| .take 1<| .take 2<| .take 4<| .take 7<| .take 3<| .take 5<| .take 6<| .take 8<| .done)] [.tmp 2,.tmp 3]:=bW mx Tryz.func136 (by kernel_rfl) (by kernel_rfl)
theorem aiq:FnF Tryz.prog 138 Tryz.f138 13 [] [.tmp 2]:=bW mx Tryz.func138 (by kernel_rfl) (by kernel_rfl)
theorem agZ:FnF Tryz.prog 139 Tryz.f139 20 [] [.tmp 4]:=bW mx Tryz.func139 (by kernel_rfl) (by kernel_rfl)
theorem aia:FnF Tryz.prog 140 Tryz.f140 9 [] [.tmp 2]:=bW mx Tryz.func140 (by kernel_rfl) (by kernel_rfl)
theorem af1:FnF Tryz.prog 141 Tryz.f141 9 [] [.tmp 2]:=bW mx Tryz.func141 (by kernel_rfl) (by kernel_rfl)
theorem aiy:FnF Tryz.prog 142 Tryz.f142 8 [] [.tmp 4]:=bW mx Tryz.func142 (by kernel_rfl) (by kernel_rfl)
theorem af2:FnF Tryz.prog 143 Tryz.f143 42 [] [.tmp 4]:=bW mx Tryz.func143 (by kernel_rfl) (by kernel_rfl)
theorem ajH:FnF Tryz.prog 144 Tryz.f144 49 [] [.tmp 2]:=bW mx Tryz.func144 (by kernel_rfl) (by kernel_rfl)
theorem agr:FnF Tryz.prog 145 Tryz.f145 77 [(13,.take 0<| .take 2<| .take 3<| .take 1<| .eff 4 false (.eff 5 false (.eff 6 true (.take 7<| .eff 8 true (.done)<| .no)<| .no)<| .no)<| .no)] [.cell 2 79]:=bW mx Tryz.func145 (by kernel_rfl) (by kernel_rfl)
theorem abT:FnF Tryz.prog 146 Tryz.f146 24 [] [.tmp 2]:=bW mx Tryz.func146 (by kernel_rfl) (by kernel_rfl)
theorem ahf:FnF Tryz.prog 147 Tryz.f147 24 [] [.tmp 6]:=bW mx Tryz.func147 (by kernel_rfl) (by kernel_rfl)
theorem ail:FnF Tryz.prog 148 Tryz.f148 57 [] [.tmp 2]:=bW mx Tryz.func148 (by kernel_rfl) (by kernel_rfl)
theorem acS:FnF Tryz.prog 149 Tryz.f149 24 [] [.tmp 6]:=bW mx Tryz.func149 (by kernel_rfl) (by kernel_rfl)
theorem af8:FnF Tryz.prog 150 Tryz.f150 15 [] [.cell 1 29]:=bW mx Tryz.func150 (by kernel_rfl) (by kernel_rfl)
theorem aii:FnF Tryz.prog 151 Tryz.f151 76 [] [.cell 2 29,.tmp 3]:=bW mx Tryz.func151 (by kernel_rfl) (by kernel_rfl)
theorem ajR:FnF Tryz.prog 152 Tryz.f152 19 [] [.tmp 2]:=bW mx Tryz.func152 (by kernel_rfl) (by kernel_rfl)
theorem ajq:FnF Tryz.prog 153 Tryz.f153 88 [(20,.take 0<| .take 1<| .take 2<| .take 3<| .take 5<| .take 8<| .take 9<| .take 10<| .take 4<| .take 6<| .take 7<| .eff 11 false (.eff 12 false (.eff 13 true (.done)<| .no)<| .no)<| .no)] [.cell 4 31]:=bW mx Tryz.func153 (by kernel_rfl) (by kernel_rfl)
theorem ajn:FnF Tryz.prog 154 Tryz.f154 48 [(11,.take 0<| .take 1<| .take 2<| .take 3<| .take 4<| .take 5<| .take 6<| .take 7<| .take 9<| .take 8<| .take 10<| .eff 11 true (.take 12<| .take 13<| .take 14<| .done)<| .no)] [.tmp 2]:=bW mx Tryz.func154 (by kernel_rfl) (by kernel_rfl)
theorem ahz:FnF Tryz.prog 155 Tryz.f155 38 [(9,.take 0<| .take 1<| .take 2<| .take 3<| .take 4<| .take 6<| .take 7<| .take 8<| .take 5<| .take 9<| .take 10<| .take 11<| .done)] [.tmp 4]:=bW mx Tryz.func155 (by kernel_rfl) (by kernel_rfl)
theorem ahZ:FnF Tryz.prog 156 Tryz.f156 10 [] [.tmp 2,.tmp 3]:=bW mx Tryz.func156 (by kernel_rfl) (by kernel_rfl)
theorem aig:FnF Tryz.prog 157 Tryz.f157 75 [(5,.take 0<| .take 1<| .take 2<| .take 5<| .take 3<| .take 6<| .eff 4 false (.take 7<| .take 8<| .eff 9 true (.done)<| .no)<| .no),(13,.take 0<| .take 1<| .take 2<| .take 3<| .take 4<| .take 5<| .take 6<| .take 7<| .take 8<| .take 10<| .take 9<| .take 11<| .eff 12 true (.take 13<| .take 14<| .done)<| .no),(15,.take 0<| .take 2<| .take 3<| .take 4<| .take 5<| .take 1<| .take 6<| .take 7<| .take 8<| .eff 9 true (.done)<| .no)] [.tmp 2]:=bW mx Tryz.func157 (by kernel_rfl) (by kernel_rfl)
theorem ajg:FnF Tryz.prog 158 Tryz.f158 42 [] [.tmp 6,.tmp 7]:=bW mx Tryz.func158 (by kernel_rfl) (by kernel_rfl)
theorem agS:FnF Tryz.prog 159 Tryz.f159 50 [(11,.take 0<| .take 1<| .take 2<| .take 5<| .take 3<| .take 6<| .eff 4 false (.take 7<| .eff 8 false (.eff 9 false (.take 10<| .done)<| .no)<| .no)<| .no)] [.tmp 6,.tmp 7]:=bW mx Tryz.func159 (by kernel_rfl) (by kernel_rfl)
theorem ajA:FnF Tryz.prog 160 Tryz.f160 28 [] [.tmp 10,.tmp 11]:=bW mx Tryz.func160 (by kernel_rfl) (by kernel_rfl)
theorem aic:FnF Tryz.prog 161 Tryz.f161 30 [] [.tmp 10,.tmp 11]:=bW mx Tryz.func161 (by kernel_rfl) (by kernel_rfl)
theorem ah8:FnF Tryz.prog 162 Tryz.f162 30 [] [.tmp 10,.tmp 11]:=bW mx Tryz.func162 (by kernel_rfl) (by kernel_rfl)
theorem agp:FnF Tryz.prog 163 Tryz.f163 30 [] [.tmp 10,.tmp 11]:=bW mx Tryz.func163 (by kernel_rfl) (by kernel_rfl)
theorem ah7:FnF Tryz.prog 164 Tryz.f164 21 [] [.tmp 4,.tmp 5]:=bW mx Tryz.func164 (by kernel_rfl) (by kernel_rfl)
theorem ahq:FnF Tryz.prog 165 Tryz.f165 28 [] [.tmp 4,.tmp 5]:=bW mx Tryz.func165 (by kernel_rfl) (by kernel_rfl)
theorem aht:FnF Tryz.prog 166 Tryz.f166 8 [] [.tmp 2,.tmp 3]:=bW mx Tryz.func166 (by kernel_rfl) (by kernel_rfl)
theorem ai9:FnF Tryz.prog 167 Tryz.f167 8 [] [.tmp 2,.tmp 3]:=bW mx Tryz.func167 (by kernel_rfl) (by kernel_rfl)
theorem ahy:FnF Tryz.prog 168 Tryz.f168 52 [] [.tmp 8,.tmp 9]:=bW mx Tryz.func168 (by kernel_rfl) (by kernel_rfl)
theorem aiC:FnF Tryz.prog 169 Tryz.f169 75 [] [.tmp 8,.tmp 9]:=bW mx Tryz.func169 (by kernel_rfl) (by kernel_rfl)
theorem aiX:FnF Tryz.prog 170 Tryz.f170 19 [] [.tmp 4]:=bW mx Tryz.func170 (by kernel_rfl) (by kernel_rfl)
theorem ajD:FnF Tryz.prog 173 Tryz.f173 2 [] [.cell 0 29]:=bW mx Tryz.func173 (by kernel_rfl) (by kernel_rfl)
theorem ahg:FnF Tryz.prog 174 Tryz.f174 137 [(19,.take 0<| .take 1<| .take 2<| .take 3<| .take 5<| .take 6<| .take 7<| .take 4<| .take 8<| .eff 9 false (.take 10<| .take 11<| .done)<| .no),(21,.take 0<| .take 1<| .take 2<| .take 3<| .take 4<| .take 5<| .take 6<| .take 7<| .take 8<| .take 10<| .take 11<| .take 12<| .take 9<| .take 13<| .take 14<| .take 15<| .take 16<| .done),(23,.take 0<| .take 1<| .take 2<| .take 4<| .take 5<| .take 6<| .take 3<| .take 7<| .take 8<| .take 9<| .take 10<| .take 11<| .done)] [.tmp 6,.tmp 7]:=bW mx Tryz.func174 (by kernel_rfl) (by kernel_rfl)
theorem ajc:FnF Tryz.prog 175 Tryz.f175 132 [] [.tmp 2]:=bW mx Tryz.func175 (by kernel_rfl) (by kernel_rfl)
theorem adj:FnF Tryz.prog 176 Tryz.f176 104 [] [.tmp 6]:=bW mx Tryz.func176 (by kernel_rfl) (by kernel_rfl)
theorem aih:FnF Tryz.prog 180 Tryz.f180 15 [] [.tmp 0]:=bW mx Tryz.func180 (by kernel_rfl) (by kernel_rfl)
theorem ajF:FnF Tryz.prog 182 Tryz.f182 18 [] [.tmp 4]:=bW mx Tryz.func182 (by kernel_rfl) (by kernel_rfl)
theorem ahN:FnF Tryz.prog 183 Tryz.f183 2 [] [.tmp 0]:=bW mx Tryz.func183 (by kernel_rfl) (by kernel_rfl)
theorem aif:FnF Tryz.prog 184 Tryz.f184 24 [] [.tmp 6]:=bW mx Tryz.func184 (by kernel_rfl) (by kernel_rfl)
theorem agt:FnF Tryz.prog 185 Tryz.f185 13 [] [.cell 2 161]:=bW mx Tryz.func185 (by kernel_rfl) (by kernel_rfl)
theorem ahn:FnF Tryz.prog 186 Tryz.f186 24 [] [.cell 4 75]:=bW mx Tryz.func186 (by kernel_rfl) (by kernel_rfl)
theorem acw:FnF Tryz.prog 187 Tryz.f187 23 [] [.tmp 2]:=bW mx Tryz.func187 (by kernel_rfl) (by kernel_rfl)
theorem ajl:FnF Tryz.prog 189 Tryz.f189 8 [] []:=bW mx Tryz.func189 (by kernel_rfl) (by kernel_rfl)
theorem agw:FnF Tryz.prog 190 Tryz.f190 136 [(12,.take 0<| .take 2<| .take 1<| .eff 3 false (.eff 4 false (.eff 5 true (.take 6<| .eff 7 true (.done)<| .no)<| .no)<| .no)<| .no),(14,.take 0<| .take 2<| .take 1<| .eff 3 false (.eff 4 false (.eff 5 true (.take 6<| .eff 7 true (.done)<| .no)<| .no)<| .no)<| .no)] [.cell 2 31]:=bW mx Tryz.func190 (by kernel_rfl) (by kernel_rfl)
theorem agD:FnF Tryz.prog 191 Tryz.f191 9 [] [.cell 4 31]:=bW mx Tryz.func191 (by kernel_rfl) (by kernel_rfl)
theorem ajT:FnF Tryz.prog 192 Tryz.f192 19 [] [.tmp 4]:=bW mx Tryz.func192 (by kernel_rfl) (by kernel_rfl)
theorem agC:FnF Tryz.prog 193 Tryz.f193 12 [] [.cell 6 31]:=bW mx Tryz.func193 (by kernel_rfl) (by kernel_rfl)
theorem aiD:FnF Tryz.prog 194 Tryz.f194 21 [] [.tmp 2]:=bW mx Tryz.func194 (by kernel_rfl) (by kernel_rfl)
theorem aiM:FnF Tryz.prog 195 Tryz.f195 9 [] [.tmp 2]:=bW mx Tryz.func195 (by kernel_rfl) (by kernel_rfl)
theorem ahs:FnF Tryz.prog 196 Tryz.f196 34 [(6,.take 1<| .take 2<| .take 3<| .take 0<| .take 4<| .eff 5 true (.take 6<| .done)<| .no)] [.tmp 4]:=bW mx Tryz.func196 (by kernel_rfl) (by kernel_rfl)
theorem ahH:FnF Tryz.prog 197 Tryz.f197 9 [] [.tmp 4]:=bW mx Tryz.func197 (by kernel_rfl) (by kernel_rfl)
theorem ajP:FnF Tryz.prog 198 Tryz.f198 7 [] [.tmp 2]:=bW mx Tryz.func198 (by kernel_rfl) (by kernel_rfl)
theorem aj3:FnF Tryz.prog 199 Tryz.f199 23 [] [.tmp 2]:=bW mx Tryz.func199 (by kernel_rfl) (by kernel_rfl)
theorem V5:FnF Tryz.prog 200 Tryz.f200 9 [] []:=bW mx Tryz.func200 (by kernel_rfl) (by kernel_rfl)
theorem aeU:FnF Tryz.prog 201 Tryz.f201 10 [] [.tmp 4]:=bW mx Tryz.func201 (by kernel_rfl) (by kernel_rfl)
theorem abi:FnF Tryz.prog 202 Tryz.f202 18 [] [.tmp 2]:=bW mx Tryz.func202 (by kernel_rfl) (by kernel_rfl)
theorem ahp:FnF Tryz.prog 203 Tryz.f203 24 [] [.tmp 4]:=bW mx Tryz.func203 (by kernel_rfl) (by kernel_rfl)
theorem ajr:FnF Tryz.prog 204 Tryz.f204 6 [] [.tmp 2]:=bW mx Tryz.func204 (by kernel_rfl) (by kernel_rfl)
theorem W9:FnF Tryz.prog 205 Tryz.f205 115 [(6,.take 0<| .take 1<| .take 2<| .take 3<| .take 4<| .take 5<| .take 6<| .done),(8,.take 0<| .take 1<| .take 2<| .take 3<| .take 4<| .take 5<| .take 6<| .eff 7 false (.eff 8 true (.done)<| .no)<| .no),(18,.take 8<| .take 10<| .take 1<| .take 2<| .take 3<| .take 4<| .take 5<| .eff 0 false (.take 6<| .take 7<| .eff 9 false (.eff 11 false (.eff 12 false (.eff 13 true (.done)<| .no)<| .no)<| .no)<| .no)<| .eff 9 false (.eff 0 false (.take 6<| .take 7<| .eff 11 false (.eff 12 false (.eff 13 true (.done)<| .no)<| .no)<| .no)<| .eff 11 false (.eff 0 false (.take 6<| .take 7<| .eff 12 false (.eff 13 true (.done)<| .no)<| .no)<| .no)<| .no)<| .no),(32,.take 4<| .take 6<| .take 0<| .take 1<| .take 2<| .take 3<| .eff 5 false (.eff 7 false (.eff 8 false (.eff 9 true (.done)<| .no)<| .no)<| .no)<| .no)] [.cell 4 29]:=bW mx Tryz.func205 (by kernel_rfl) (by kernel_rfl)
theorem af7:FnF Tryz.prog 206 Tryz.f206 22 [] [.tmp 4]:=bW mx Tryz.func206 (by kernel_rfl) (by kernel_rfl)
theorem agA:FnF Tryz.prog 207 Tryz.f207 31 [(3,.take 0<| .take 1<| .take 6<| .take 7<| .take 9<| .take 10<| .take 4<| .eff 2 false (.eff 3 false (.eff 5 false (.eff 8 false (.eff 11 false (.eff 12 false (.eff 13 false (.take 14<| .done)<| .no)<| .no)<| .no)<| .no)<| .no)<| .no)<| .no)] [.tmp 10]:=bW mx Tryz.func207 (by kernel_rfl) (by kernel_rfl)
theorem adr:FnF Tryz.prog 208 Tryz.f208 14 [] [.tmp 6]:=bW mx Tryz.func208 (by kernel_rfl) (by kernel_rfl)
theorem aiK:FnF Tryz.prog 209 Tryz.f209 29 [] [.tmp 6]:=bW mx Tryz.func209 (by kernel_rfl) (by kernel_rfl)
theorem Y7:FnF Tryz.prog 210 Tryz.f210 17 [] [.tmp 6]:=bW mx Tryz.func210 (by kernel_rfl) (by kernel_rfl)
theorem aez:FnF Tryz.prog 211 Tryz.f211 48 [] [.tmp 8]:=bW mx Tryz.func211 (by kernel_rfl) (by kernel_rfl)
theorem Wz:FnF Tryz.prog 212 Tryz.f212 18 [] [.tmp 2]:=bW mx Tryz.func212 (by kernel_rfl) (by kernel_rfl)
theorem US:FnF Tryz.prog 213 Tryz.f213 36 [] [.tmp 2]:=bW mx Tryz.func213 (by kernel_rfl) (by kernel_rfl)
theorem ai3:FnF Tryz.prog 214 Tryz.f214 8 [] [.tmp 2,.tmp 3]:=bW mx Tryz.func214 (by kernel_rfl) (by kernel_rfl)
theorem aiY:FnF Tryz.prog 215 Tryz.f215 39 [] [.tmp 4,.tmp 5]:=bW mx Tryz.func215 (by kernel_rfl) (by kernel_rfl)
theorem ady:FnF Tryz.prog 216 Tryz.f216 5 [] [.tmp 2]:=bW mx Tryz.func216 (by kernel_rfl) (by kernel_rfl)
theorem acN:FnF Tryz.prog 217 Tryz.f217 6 [] [.tmp 2]:=bW mx Tryz.func217 (by kernel_rfl) (by kernel_rfl)
theorem ahe:FnF Tryz.prog 218 Tryz.f218 121 [(6,.take 0<| .take 1<| .take 2<| .take 3<| .take 5<| .eff 4 false (.eff 6 false (.take 7<| .eff 8 false (.eff 9 false (.take 10<| .done)<| .no)<| .no)<| .no)<| .eff 6 false (.eff 4 false (.take 7<| .eff 8 false (.eff 9 false (.take 10<| .done)<| .no)<| .no)<| .no)<| .no),(14,.take 0<| .take 1<| .take 2<| .take 3<| .take 4<| .take 5<| .take 6<| .take 8<| .take 7<| .take 9<| .eff 10 true (.take 11<| .take 12<| .done)<| .no),(15,.take 0<| .take 1<| .take 2<| .take 3<| .take 4<| .take 5<| .take 7<| .take 6<| .take 8<| .eff 9 true (.take 10<| .take 11<| .eff 12 true (.done)<| .no)<| .no),(28,.take 0<| .take 1<| .take 2<| .take 3<| .take 4<| .take 5<| .eff 6 false (.eff 7 false (.eff 8 false (.take 9<| .done)<| .no)<| .no)<| .no)] [.tmp 6]:=bW mx Tryz.func218 (by kernel_rfl) (by kernel_rfl)
theorem adX:FnF Tryz.prog 219 Tryz.f219 15 [(1,.take 1<| .take 5<| .take 0<| .take 2<| .take 4<| .take 6<| .eff 3 false (.eff 7 false (.eff 8 false (.take 9<| .done)<| .no)<| .no)<| .no)] [.tmp 5]:=bW mx Tryz.func219 (by kernel_rfl) (by kernel_rfl)
theorem afY:FnF Tryz.prog 226 Tryz.f226 31 [] [.tmp 2]:=bW mx Tryz.func226 (by kernel_rfl) (by kernel_rfl)
theorem aeQ:FnF Tryz.prog 227 Tryz.f227 68 [(6,.take 0<| .take 1<| .take 3<| .take 4<| .take 2<| .take 5<| .eff 6 true (.take 7<| .take 8<| .take 9<| .take 10<| .done)<| .no),(12,.take 0<| .take 1<| .take 3<| .take 4<| .take 2<| .take 5<| .eff 6 true (.take 7<| .take 8<| .take 9<| .take 10<| .take 11<| .done)<| .no),(2,.take 0<| .take 1<| .take 3<| .take 4<| .take 2<| .take 5<| .eff 6 true (.take 7<| .take 8<| .take 9<| .take 10<| .take 11<| .done)<| .no)] [.tmp 4,.tmp 5]:=bW mx Tryz.func227 (by kernel_rfl) (by kernel_rfl)
theorem YU:FnF Tryz.prog 228 Tryz.f228 18 [] [.tmp 2]:=bW mx Tryz.func228 (by kernel_rfl) (by kernel_rfl)
theorem agM:FnF Tryz.prog 229 Tryz.f229 12 [(1,.take 0<| .take 1<| .take 2<| .take 3<| .take 4<| .take 5<| .take 6<| .take 7<| .eff 8 false (.take 9<| .done)<| .no)] [.tmp 2]:=bW mx Tryz.func229 (by kernel_rfl) (by kernel_rfl)
theorem aj4:FnF Tryz.prog 230 Tryz.f230 12 [(1,.take 0<| .take 1<| .take 2<| .take 3<| .take 4<| .take 5<| .take 6<| .take 7<| .eff 8 false (.take 9<| .done)<| .no)] [.tmp 2]:=bW mx Tryz.func230 (by kernel_rfl) (by kernel_rfl)
theorem afZ:FnF Tryz.prog 231 Tryz.f231 8 [] [.tmp 2]:=bW mx Tryz.func231 (by kernel_rfl) (by kernel_rfl)
theorem aj6:FnF Tryz.prog 232 Tryz.f232 44 [] [.tmp 4]:=bW mx Tryz.func232 (by kernel_rfl) (by kernel_rfl)
theorem ahF:FnF Tryz.prog 233 Tryz.f233 43 [] [.tmp 2]:=bW mx Tryz.func233 (by kernel_rfl) (by kernel_rfl)
theorem aaE:FnF Tryz.prog 242 Tryz.f242 26 [(1,.take 0<| .take 2<| .eff 1 false (.eff 3 false (.eff 4 false (.eff 5 true (.done)<| .no)<| .no)<| .no)<| .no),(2,.take 0<| .take 2<| .take 5<| .take 7<| .take 10<| .take 12<| .take 1<| .take 3<| .take 6<| .take 8<| .take 11<| .take 13<| .eff 4 false (.eff 9 false (.eff 14 false (.eff 15 false (.eff 16 false (.take 17<| .done)<| .no)<| .no)<| .no)<| .no)<| .no)] [.tmp 4]:=bW mx Tryz.func242 (by kernel_rfl) (by kernel_rfl)
theorem ahY:FnF Tryz.prog 243 Tryz.f243 20 [] [.tmp 4]:=bW mx Tryz.func243 (by kernel_rfl) (by kernel_rfl)
theorem ajv:FnF Tryz.prog 244 Tryz.f244 19 [] [.tmp 4]:=bW mx Tryz.func244 (by kernel_rfl) (by kernel_rfl)
theorem aeh:FnF Tryz.prog 245 Tryz.f245 63 [] []:=bW mx Tryz.func245 (by kernel_rfl) (by kernel_rfl)
theorem ag0:FnF Tryz.prog 246 Tryz.f246 9 [] [.tmp 2]:=bW mx Tryz.func246 (by kernel_rfl) (by kernel_rfl)
theorem mw:FnF Tryz.prog 247 Tryz.f247 13 [(1,.take 4<| .take 0<| .take 1<| .take 2<| .take 3<| .take 5<| .take 6<| .eff 7 false (.eff 8 true (.done)<| .no)<| .no)] [.cell 4 29]:=bW mx Tryz.func247 (by kernel_rfl) (by kernel_rfl)
theorem ahv:FnF Tryz.prog 248 Tryz.f248 7 [] [.cell 2 29]:=bW mx Tryz.func248 (by kernel_rfl) (by kernel_rfl)
theorem ahi:FnF Tryz.prog 249 Tryz.f249 11 [(1,.take 0<| .take 2<| .eff 1 false (.eff 3 false (.eff 4 false (.eff 5 false (.eff 6 true (.done)<| .no)<| .no)<| .no)<| .no)<| .no)] [.cell 4 29]:=bW mx Tryz.func249 (by kernel_rfl) (by kernel_rfl)
theorem ahI:FnF Tryz.prog 250 Tryz.f250 11 [(1,.take 0<| .take 2<| .eff 1 false (.eff 3 false (.eff 4 false (.eff 5 false (.eff 6 true (.done)<| .no)<| .no)<| .no)<| .no)<| .no)] [.cell 4 29]:=bW mx Tryz.func250 (by kernel_rfl) (by kernel_rfl)
theorem ajU:FnF Tryz.prog 251 Tryz.f251 61 [(3,.take 0<| .take 2<| .take 1<| .take 4<| .take 3<| .take 5<| .done)] [.cell 6 29]:=bW mx Tryz.func251 (by kernel_rfl) (by kernel_rfl)
theorem ajI:FnF Tryz.prog 252 Tryz.f252 30 [] [.cell 4 29]:=bW mx Tryz.func252 (by kernel_rfl) (by kernel_rfl)
theorem ai2:FnF Tryz.prog 253 Tryz.f253 8 [] [.cell 2 29]:=bW mx Tryz.func253 (by kernel_rfl) (by kernel_rfl)
theorem agU:FnF Tryz.prog 254 Tryz.f254 39 [] [.cell 6 29]:=bW mx Tryz.func254 (by kernel_rfl) (by kernel_rfl)
theorem LM:FnF Tryz.prog 255 Tryz.f255 44 [] []:=bW mx Tryz.func255 (by kernel_rfl) (by kernel_rfl)
theorem acW:FnF Tryz.prog 256 Tryz.f256 25 [(0,.take 1<| .take 3<| .take 8<| .take 0<| .take 2<| .take 4<| .take 5<| .take 6<| .take 7<| .take 9<| .take 10<| .take 11<| .take 12<| .take 13<| .eff 14 false (.eff 15 false (.eff 16 true (.done)<| .no)<| .no)<| .no)] []:=bW mx Tryz.func256 (by kernel_rfl) (by kernel_rfl)
theorem ab4:FnF Tryz.prog 257 Tryz.f257 17 [] []:=bW mx Tryz.func257 (by kernel_rfl) (by kernel_rfl)
theorem ahu:FnF Tryz.prog 258 Tryz.f258 8 [] [.tmp 2]:=bW mx Tryz.func258 (by kernel_rfl) (by kernel_rfl)
theorem ah6:FnF Tryz.prog 259 Tryz.f259 27 [] [.tmp 4]:=bW mx Tryz.func259 (by kernel_rfl) (by kernel_rfl)
theorem abW:FnF Tryz.prog 260 Tryz.f260 5 [] [.tmp 2]:=bW mx Tryz.func260 (by kernel_rfl) (by kernel_rfl)
theorem aeI:FnF Tryz.prog 261 Tryz.f261 9 [] []:=bW mx Tryz.func261 (by kernel_rfl) (by kernel_rfl)
theorem ae3:FnF Tryz.prog 262 Tryz.f262 10 [] [.tmp 4]:=bW mx Tryz.func262 (by kernel_rfl) (by kernel_rfl)
theorem ahh:FnF Tryz.prog 263 Tryz.f263 92 [(10,.take 0<| .take 1<| .take 2<| .take 3<| .take 4<| .eff 5 false (.eff 6 false (.eff 7 true (.done)<| .no)<| .no)<| .eff 6 false (.eff 5 true (.eff 7 true (.done)<| .no)<| .no)<| .no)] [.cell 4 29]:=bW mx Tryz.func263 (by kernel_rfl) (by kernel_rfl)
theorem agJ:FnF Tryz.prog 271 Tryz.f271 24 [] [.tmp 4]:=bW mx Tryz.func271 (by kernel_rfl) (by kernel_rfl)
theorem ai5:FnF Tryz.prog 272 Tryz.f272 19 [] [.tmp 4,.tmp 5]:=bW mx Tryz.func272 (by kernel_rfl) (by kernel_rfl)
theorem ajB:FnF Tryz.prog 273 Tryz.f273 8 [] [.tmp 1]:=bW mx Tryz.func273 (by kernel_rfl) (by kernel_rfl)
theorem ag6:FnF Tryz.prog 274 Tryz.f274 7 [] [.tmp 1]:=bW mx Tryz.func274 (by kernel_rfl) (by kernel_rfl)
theorem aec:FnF Tryz.prog 287 Tryz.f287 18 [] [.tmp 2]:=bW mx Tryz.func287 (by kernel_rfl) (by kernel_rfl)
theorem ajp:FnF Tryz.prog 288 Tryz.f288 20 [] [.tmp 4]:=bW mx Tryz.func288 (by kernel_rfl) (by kernel_rfl)
theorem ah1:FnF Tryz.prog 290 Tryz.f290 6 [] [.tmp 2]:=bW mx Tryz.func290 (by kernel_rfl) (by kernel_rfl)
theorem acq:FnF Tryz.prog 291 Tryz.f291 53 [(4,.take 0<| .take 1<| .take 2<| .take 3<| .take 4<| .take 5<| .take 6<| .take 7<| .take 9<| .take 10<| .take 11<| .take 12<| .take 8<| .take 13<| .eff 14 true (.take 15<| .take 16<| .done)<| .no),(6,.take 0<| .take 1<| .take 2<| .take 3<| .take 4<| .take 5<| .take 6<| .take 7<| .take 8<| .take 10<| .take 11<| .take 12<| .take 9<| .take 13<| .take 14<| .eff 15 true (.take 16<| .eff 17 true (.done)<| .no)<| .no)] []:=bW mx Tryz.func291 (by kernel_rfl) (by kernel_rfl)
theorem af4:FnF Tryz.prog 292 Tryz.f292 220 [(5,.take 0<| .take 1<| .take 2<| .take 3<| .take 5<| .take 6<| .take 7<| .take 4<| .take 8<| .eff 9 true (.take 10<| .done)<| .no),(11,.take 0<| .take 1<| .take 2<| .take 3<| .take 4<| .take 5<| .take 6<| .take 7<| .take 8<| .take 10<| .take 11<| .take 12<| .take 9<| .take 13<| .take 14<| .eff 15 true (.take 16<| .eff 17 true (.done)<| .no)<| .no),(17,.take 0<| .take 1<| .take 2<| .take 3<| .take 5<| .take 6<| .take 7<| .take 4<| .take 8<| .eff 9 true (.take 10<| .take 11<| .done)<| .no),(23,.take 0<| .take 1<| .take 2<| .take 3<| .take 4<| .take 5<| .take 6<| .take 7<| .take 8<| .take 10<| .take 11<| .take 12<| .take 9<| .take 13<| .take 14<| .eff 15 true (.take 16<| .eff 17 true (.done)<| .no)<| .no),(35,.take 0<| .take 1<| .take 2<| .take 3<| .take 4<| .take 5<| .take 7<| .take 8<| .take 9<| .take 6<| .take 10<| .eff 11 true (.take 12<| .take 13<| .done)<| .no)] []:=bW mx Tryz.func292 (by kernel_rfl) (by kernel_rfl)
theorem ajK:FnF Tryz.prog 293 Tryz.f293 9 [] [.cell 2 29]:=bW mx Tryz.func293 (by kernel_rfl) (by kernel_rfl)
theorem aj2:FnF Tryz.prog 294 Tryz.f294 12 [] [.cell 2 29]:=bW mx Tryz.func294 (by kernel_rfl) (by kernel_rfl)
theorem agy:FnF Tryz.prog 295 Tryz.f295 15 [] [.cell 4 29]:=bW mx Tryz.func295 (by kernel_rfl) (by kernel_rfl)
theorem agO:FnF Tryz.prog 296 Tryz.f296 15 [] [.cell 4 29]:=bW mx Tryz.func296 (by kernel_rfl) (by kernel_rfl)
theorem ads:FnF Tryz.prog 297 Tryz.f297 36 [] [.tmp 2]:=bW mx Tryz.func297 (by kernel_rfl) (by kernel_rfl)
theorem adE:FnF Tryz.prog 298 Tryz.f298 63 [] []:=bW mx Tryz.func298 (by kernel_rfl) (by kernel_rfl)
theorem ag1:FnF Tryz.prog 299 Tryz.f299 28 [] []:=bW mx Tryz.func299 (by kernel_rfl) (by kernel_rfl)
theorem ad5:FnF Tryz.prog 300 Tryz.f300 32 [(1,.take 0<| .take 1<| .take 2<| .take 4<| .take 5<| .take 6<| .take 10<| .take 11<| .take 12<| .take 3<| .take 7<| .take 8<| .take 9<| .take 15<| .take 13<| .take 14<| .take 16<| .done)] [.cell 2 29]:=bW mx Tryz.func300 (by kernel_rfl) (by kernel_rfl)
theorem ajO:FnF Tryz.prog 312 Tryz.f312 6 [] [.tmp 2]:=bW mx Tryz.func312 (by kernel_rfl) (by kernel_rfl)
theorem af6:FnF Tryz.prog 314 Tryz.f314 58 [] []:=bW mx Tryz.func314 (by kernel_rfl) (by kernel_rfl)
theorem aja:FnF Tryz.prog 315 Tryz.f315 15 [] [.tmp 4]:=bW mx Tryz.func315 (by kernel_rfl) (by kernel_rfl)
theorem af3:FnF Tryz.prog 316 Tryz.f316 27 [] [.tmp 4]:=bW mx Tryz.func316 (by kernel_rfl) (by kernel_rfl)
theorem acE:FnF Tryz.prog 317 Tryz.f317 53 [(4,.take 0<| .take 1<| .take 2<| .take 3<| .take 4<| .take 5<| .take 6<| .take 7<| .take 9<| .take 10<| .take 11<| .take 12<| .take 8<| .take 13<| .eff 14 true (.take 15<| .take 16<| .done)<| .no),(6,.take 0<| .take 1<| .take 2<| .take 3<| .take 4<| .take 5<| .take 6<| .take 7<| .take 8<| .take 10<| .take 11<| .take 12<| .take 9<| .take 13<| .take 14<| .eff 15 true (.take 16<| .eff 17 true (.done)<| .no)<| .no)] []:=bW mx Tryz.func317 (by kernel_rfl) (by kernel_rfl)
theorem ajf:FnF Tryz.prog 318 Tryz.f318 220 [(5,.take 0<| .take 1<| .take 2<| .take 3<| .take 5<| .take 6<| .take 7<| .take 4<| .take 8<| .eff 9 true (.take 10<| .done)<| .no),(11,.take 0<| .take 1<| .take 2<| .take 3<| .take 4<| .take 5<| .take 6<| .take 7<| .take 8<| .take 10<| .take 11<| .take 12<| .take 9<| .take 13<| .take 14<| .eff 15 true (.take 16<| .eff 17 true (.done)<| .no)<| .no),(17,.take 0<| .take 1<| .take 2<| .take 3<| .take 5<| .take 6<| .take 7<| .take 4<| .take 8<| .eff 9 true (.take 10<| .take 11<| .done)<| .no),(23,.take 0<| .take 1<| .take 2<| .take 3<| .take 4<| .take 5<| .take 6<| .take 7<| .take 8<| .take 10<| .take 11<| .take 12<| .take 9<| .take 13<| .take 14<| .eff 15 true (.take 16<| .eff 17 true (.done)<| .no)<| .no),(35,.take 0<| .take 1<| .take 2<| .take 3<| .take 4<| .take 5<| .take 7<| .take 8<| .take 9<| .take 6<| .take 10<| .eff 11 true (.take 12<| .take 13<| .done)<| .no)] []:=bW mx Tryz.func318 (by kernel_rfl) (by kernel_rfl)
theorem ahc:FnF Tryz.prog 323 Tryz.f323 38 [(3,.take 0<| .take 1<| .take 2<| .take 3<| .take 4<| .take 5<| .take 6<| .take 7<| .take 8<| .take 9<| .take 10<| .take 11<| .take 12<| .take 14<| .take 15<| .take 16<| .take 17<| .take 18<| .take 13<| .take 19<| .take 20<| .eff 21 true (.take 22<| .eff 23 true (.done)<| .no)<| .no)] []:=bW mx Tryz.func323 (by kernel_rfl) (by kernel_rfl)
theorem ai8:FnF Tryz.prog 324 Tryz.f324 58 [] []:=bW mx Tryz.func324 (by kernel_rfl) (by kernel_rfl)
theorem agd:FnF Tryz.prog 325 Tryz.f325 38 [(3,.take 0<| .take 1<| .take 2<| .take 3<| .take 4<| .take 5<| .take 6<| .take 7<| .take 8<| .take 9<| .take 10<| .take 11<| .take 12<| .take 14<| .take 15<| .take 16<| .take 17<| .take 18<| .take 13<| .take 19<| .take 20<| .eff 21 true (.take 22<| .eff 23 true (.done)<| .no)<| .no)] []:=bW mx Tryz.func325 (by kernel_rfl) (by kernel_rfl)
theorem aaD:de Tryz.prog 188=true:=by kernel_rfl
theorem aaL:de Tryz.prog 239=true:=by kernel_rfl
theorem Rx:kX Tryz.prog 134=true:=by kernel_rfl
theorem SL:kX Tryz.prog 146=true:=by kernel_rfl
theorem mB:kX Tryz.prog 157=true:=by kernel_rfl
theorem Yd:kX Tryz.prog 22=true:=by kernel_rfl
theorem QE:kX Tryz.prog 23=true:=by kernel_rfl
theorem jD:kX Tryz.prog 24=true:=by kernel_rfl
theorem uQ:kX Tryz.prog 25=true:=by kernel_rfl
theorem ZC:kX Tryz.prog 275=true:=by kernel_rfl
theorem YD:kX Tryz.prog 340=true:=by kernel_rfl
theorem Zv:kX Tryz.prog 345=true:=by kernel_rfl
theorem xV:kX Tryz.prog 351=true:=by kernel_rfl
theorem Gd:kX Tryz.prog 36=true:=by kernel_rfl
theorem YJ:kX Tryz.prog 369=true:=by kernel_rfl
theorem X3:kX Tryz.prog 39=true:=by kernel_rfl
theorem acZ:kX Tryz.prog 40=true:=by kernel_rfl
theorem E7:kX Tryz.prog 43=true:=by kernel_rfl
theorem FP:kX Tryz.prog 58=true:=by kernel_rfl
theorem Pz:kX Tryz.prog 65=true:=by kernel_rfl
theorem Yt:kX Tryz.prog 68=true:=by kernel_rfl
theorem Xo:kX Tryz.prog 72=true:=by kernel_rfl
theorem Sk:kX Tryz.prog 76=true:=by kernel_rfl
theorem O1:kX Tryz.prog 77=true:=by kernel_rfl
theorem ml:kX Tryz.prog 80=true:=by kernel_rfl
theorem JI:kX Tryz.prog 93=true:=by kernel_rfl
theorem K0:kX Tryz.prog 99=true:=by kernel_rfl
theorem RF:eC Tryz.prog 134=some (5,1,[(.int .u8 (0))]):=by kernel_rfl
theorem Ph:eC Tryz.prog 146=some (199,3,[(.int .i64 (0)),(.string ⟨#[]⟩),(.int .i64 (0))]):=by kernel_rfl
theorem mI:eC Tryz.prog 157=some (29,3,[(.int .i64 (0)),(.int .i64 (0)),(.string ⟨#[]⟩)]):=by kernel_rfl
theorem Yc:eC Tryz.prog 22=some (52,14,[(.string ⟨#[]⟩),(.slice none 0 0),(.bool false),(.int .i64 (0)),(.int .i64 (0)),(.int .i64 (0)),(.int .i64 (0)),(.int .i64 (0)),(.string ⟨#[]⟩),(.int .i64 (0)),(.slice none 0 0),(.slice none 0 0),(.slice none 0 0),(.slice none 0 0)]):=by kernel_rfl
theorem OL:eC Tryz.prog 23=some (79,21,[(.bool false),(.bool false),(.slice none 0 0),(.slice none 0 0),(.bool false),(.bool false),(.int .i64 (0)),(.int .i64 (0)),(.int .i64 (0)),(.string ⟨#[]⟩),(.string ⟨#[]⟩),(.string ⟨#[]⟩),(.slice none 0 0),(.int .i64 (0)),(.int .i64 (0)),(.int .i64 (0)),(.string ⟨#[]⟩),(.string ⟨#[]⟩),(.string ⟨#[]⟩),(.slice none 0 0),(.slice none 0 0)]):=by kernel_rfl
theorem jL:eC Tryz.prog 24=some (3,1,[(.int .i64 (0))]):=by kernel_rfl
theorem uG:eC Tryz.prog 25=some (31,7,[(.int .i64 (0)),(.int .i64 (0)),(.int .i64 (0)),(.string ⟨#[]⟩),(.string ⟨#[]⟩),(.string ⟨#[]⟩),(.slice none 0 0)]):=by kernel_rfl
theorem abg:eC Tryz.prog 275=some (278,3,[(.slice none 0 0),(.int .i64 (0)),(.bool false)]):=by kernel_rfl
theorem aa3:eC Tryz.prog 340=some (32,1,[(.int .i64 (0))]):=by kernel_rfl
theorem Y0:eC Tryz.prog 345=some (21,1,[(.int .i32 (0))]):=by kernel_rfl
theorem yo:eC Tryz.prog 351=some (353,2,[(.slice none 0 0),(.slice none 0 0)]):=by kernel_rfl
theorem Eh:eC Tryz.prog 36=some (38,6,[(.int .i64 (0)),(.int .i64 (0)),(.int .i64 (0)),(.string ⟨#[]⟩),(.int .i64 (0)),(.slice none 0 0)]):=by kernel_rfl
theorem abf:eC Tryz.prog 369=some (325,1,[.nilFunc]):=by kernel_rfl
theorem XY:eC Tryz.prog 39=some (119,7,[(.int .i64 (0)),(.int .i64 (0)),(.int .i64 (0)),(.int .i64 (0)),(.string ⟨#[]⟩),(.int .i64 (0)),(.slice none 0 0)]):=by kernel_rfl
theorem ae9:eC Tryz.prog 40=some (42,11,[(.int .i64 (0)),(.int .i64 (0)),(.int .i64 (0)),(.int .i64 (0)),(.int .i64 (0)),(.string ⟨#[]⟩),(.int .i64 (0)),(.slice none 0 0),(.slice none 0 0),(.slice none 0 0),(.slice none 0 0)]):=by kernel_rfl
theorem Gv:eC Tryz.prog 43=some (48,2,[(.string ⟨#[]⟩),(.int .i64 (0))]):=by kernel_rfl
theorem F3:eC Tryz.prog 58=some (24,1,[(.slice none 0 0)]):=by kernel_rfl
theorem S7:eC Tryz.prog 65=some (157,1,[(.slice none 0 0)]):=by kernel_rfl
theorem X1:eC Tryz.prog 68=some (67,16,[(.int .i64 (0)),(.string ⟨#[]⟩),(.slice none 0 0),(.slice none 0 0),(.slice none 0 0),(.slice none 0 0),(.int .i64 (0)),(.slice none 0 0),(.bool false),(.int .i64 (0)),(.int .i64 (0)),(.int .i64 (0)),(.string ⟨#[]⟩),(.string ⟨#[]⟩),(.string ⟨#[]⟩),(.slice none 0 0)]):=by kernel_rfl
theorem Yo:eC Tryz.prog 72=some (80,1,[(.slice none 0 0)]):=by kernel_rfl
theorem OD:eC Tryz.prog 76=some (75,10,[(.int .i64 (0)),(.string ⟨#[]⟩),(.string ⟨#[]⟩),(.int .i64 (0)),(.int .i64 (0)),(.int .i64 (0)),(.string ⟨#[]⟩),(.string ⟨#[]⟩),(.string ⟨#[]⟩),(.slice none 0 0)]):=by kernel_rfl
theorem SY:eC Tryz.prog 77=some (161,8,[(.int .i64 (0)),(.int .i64 (0)),(.int .i64 (0)),(.string ⟨#[]⟩),(.string ⟨#[]⟩),(.string ⟨#[]⟩),(.slice none 0 0),(.string ⟨#[]⟩)]):=by kernel_rfl
theorem mm:eC Tryz.prog 80=some (159,2,[(.slice none 0 0),(.int .i64 (0))]):=by kernel_rfl
theorem J7:eC Tryz.prog 93=some (9,1,[(.string ⟨#[]⟩)]):=by kernel_rfl
theorem Kz:eC Tryz.prog 99=some (104,2,[(.string ⟨#[]⟩),(.string ⟨#[]⟩)]):=by kernel_rfl
theorem V8:Tryz.prog.concrete 144=true:=by kernel_rfl
theorem Zj:Tryz.prog.concrete 89=true:=by kernel_rfl
theorem ado:Tryz.prog.concrete 9=true:=by kernel_rfl
theorem tz0:bt Tryz.prog 102=some ([(.slice none 0 0),(.slice none 0 0),(.pointer none),(.pointer none)],[(0,1),(1,1),(2,1),(3,1)])/\bt Tryz.prog 104=some ([(.string ⟨#[]⟩),(.string ⟨#[]⟩)],[(0,1),(1,1)])/\bt Tryz.prog 119=some ([(.int .i64 (0)),(.int .i64 (0)),(.int .i64 (0)),(.int .i64 (0)),(.string ⟨#[]⟩),(.int .i64 (0)),(.slice none 0 0)],[(0,1),(1,6)])/\bt Tryz.prog 127=some ([(.slice none 0 0),(.int .i64 (0))],[(0,1),(1,1)])/\bt Tryz.prog 144=some ([(.int .i64 (0)),(.int .i64 (0))],[(0,2)])/\bt Tryz.prog 149=some ([(.slice none 0 0),(.int .i64 (0)),(.int .i64 (0))],[(0,1),(1,1),(2,1)])/\bt Tryz.prog 159=some ([(.slice none 0 0),(.int .i64 (0))],[(0,1),(1,1)])/\bt Tryz.prog 161=some ([(.int .i64 (0)),(.int .i64 (0)),(.int .i64 (0)),(.string ⟨#[]⟩),(.string ⟨#[]⟩),(.string ⟨#[]⟩),(.slice none 0 0),(.string ⟨#[]⟩)],[(0,7),(7,1)])/\bt Tryz.prog 199=some ([(.int .i64 (0)),(.string ⟨#[]⟩),(.int .i64 (0))],[(0,1),(1,1),(2,1)])/\bt Tryz.prog 266=some ([(.slice none 0 0),(.int .i64 (0))],[(0,1),(1,1)])/\bt Tryz.prog 27=some ([(.slice none 0 0),(.slice none 0 0),(.slice none 0 0),(.int .i64 (0))],[(0,1),(1,1),(2,1),(3,1)])/\bt Tryz.prog 272=some ([(.int .i64 (0))],[(0,1)])/\bt Tryz.prog 278=some ([(.slice none 0 0),(.int .i64 (0)),(.bool false)],[(0,1),(1,1),(2,1)])/\bt Tryz.prog 29=some ([(.int .i64 (0)),(.int .i64 (0)),(.string ⟨#[]⟩)],[(0,1),(1,1),(2,1)])/\bt Tryz.prog 31=some ([(.int .i64 (0)),(.int .i64 (0)),(.int .i64 (0)),(.string ⟨#[]⟩),(.string ⟨#[]⟩),(.string ⟨#[]⟩),(.slice none 0 0)],[(0,1),(1,3),(4,1),(5,1),(6,1)])/\bt Tryz.prog 353=some ([(.slice none 0 0),(.slice none 0 0)],[(0,1),(1,1)])/\bt Tryz.prog 38=some ([(.int .i64 (0)),(.int .i64 (0)),(.int .i64 (0)),(.string ⟨#[]⟩),(.int .i64 (0)),(.slice none 0 0)],[(0,1),(1,3),(4,1),(5,1)])/\bt Tryz.prog 42=some ([(.int .i64 (0)),(.int .i64 (0)),(.int .i64 (0)),(.int .i64 (0)),(.int .i64 (0)),(.string ⟨#[]⟩),(.int .i64 (0)),(.slice none 0 0),(.slice none 0 0),(.slice none 0 0),(.slice none 0 0)],[(0,1),(1,1),(2,6),(8,1),(9,1),(10,1)])/\bt Tryz.prog 48=some ([(.string ⟨#[]⟩),(.int .i64 (0))],[(0,1),(1,1)])/\bt Tryz.prog 52=some ([(.string ⟨#[]⟩),(.slice none 0 0),(.bool false),(.int .i64 (0)),(.int .i64 (0)),(.int .i64 (0)),(.int .i64 (0)),(.int .i64 (0)),(.string ⟨#[]⟩),(.int .i64 (0)),(.slice none 0 0),(.slice none 0 0),(.slice none 0 0),(.slice none 0 0)],[(0,1),(1,1),(2,1),(3,11)])/\bt Tryz.prog 62=some ([(.int .i64 (0)),(.int .i64 (0))],[(0,1),(1,1)])/\bt Tryz.prog 67=some ([(.int .i64 (0)),(.string ⟨#[]⟩),(.slice none 0 0),(.slice none 0 0),(.slice none 0 0),(.slice none 0 0),(.int .i64 (0)),(.slice none 0 0),(.bool false),(.int .i64 (0)),(.int .i64 (0)),(.int .i64 (0)),(.string ⟨#[]⟩),(.string ⟨#[]⟩),(.string ⟨#[]⟩),(.slice none 0 0)],[(0,1),(1,1),(2,1),(3,4),(7,1),(8,1),(9,7)])/\bt Tryz.prog 75=some ([(.int .i64 (0)),(.string ⟨#[]⟩),(.string ⟨#[]⟩),(.int .i64 (0)),(.int .i64 (0)),(.int .i64 (0)),(.string ⟨#[]⟩),(.string ⟨#[]⟩),(.string ⟨#[]⟩),(.slice none 0 0)],[(0,1),(1,1),(2,1),(3,7)])/\bt Tryz.prog 79=some ([(.bool false),(.bool false),(.slice none 0 0),(.slice none 0 0),(.bool false),(.bool false),(.int .i64 (0)),(.int .i64 (0)),(.int .i64 (0)),(.string ⟨#[]⟩),(.string ⟨#[]⟩),(.string ⟨#[]⟩),(.slice none 0 0),(.int .i64 (0)),(.int .i64 (0)),(.int .i64 (0)),(.string ⟨#[]⟩),(.string ⟨#[]⟩),(.string ⟨#[]⟩),(.slice none 0 0),(.slice none 0 0)],[(0,1),(1,1),(2,1),(3,1),(4,1),(5,1),(6,7),(13,7),(20,1)])/\bt Tryz.prog 89=some ([(.int .i64 (0))],[(0,1)])/\bt Tryz.prog 92=some ([(.slice none 0 0)],[(0,1)])/\cvT Tryz.prog 363 3=some .i64/\cvT Tryz.prog 3 363=some .u64/\Ti Tryz.prog 133 328=0/\Ti Tryz.prog 328 133=0/\Ti Tryz.prog 363 3=0/\Ti Tryz.prog 3 363=0/\dy Tryz.prog 146=some 3/\dy Tryz.prog 157=some 3/\dy Tryz.prog 22=some 14/\dy Tryz.prog 23=some 21/\dy Tryz.prog 24=some 1/\dy Tryz.prog 25=some 7/\dy Tryz.prog 275=some 3/\dy Tryz.prog 303=some 1/\dy Tryz.prog 340=some 1/\dy Tryz.prog 345=some 1/\dy Tryz.prog 351=some 2/\dy Tryz.prog 36=some 6/\dy Tryz.prog 369=some 1/\dy Tryz.prog 39=some 7/\dy Tryz.prog 40=some 11/\dy Tryz.prog 43=some 2/\dy Tryz.prog 58=some 1/\dy Tryz.prog 65=some 1/\dy Tryz.prog 68=some 16/\dy Tryz.prog 72=some 1/\dy Tryz.prog 76=some 10/\dy Tryz.prog 77=some 8/\dy Tryz.prog 80=some 2/\dy Tryz.prog 93=some 1/\dy Tryz.prog 99=some 2/\Z9 Tryz.prog 29 0=some (false,0,1)/\cN Tryz.prog 102 0=some 0/\cN Tryz.prog 102 1=some 1:=by (repeat' apply And.intro)<;>kernel_rfl
theorem tz1:cN Tryz.prog 102 2=some 2/\cN Tryz.prog 102 3=some 3/\cN Tryz.prog 104 0=some 0/\cN Tryz.prog 104 1=some 1/\cN Tryz.prog 119 0=some 0/\cN Tryz.prog 119 1=some 1/\cN Tryz.prog 127 0=some 0/\cN Tryz.prog 127 1=some 1/\cN Tryz.prog 136 0=some 0/\cN Tryz.prog 136 1=some 1/\cN Tryz.prog 144 0=some 0/\cN Tryz.prog 149 0=some 0/\cN Tryz.prog 149 1=some 1/\cN Tryz.prog 149 2=some 2/\cN Tryz.prog 159 0=some 0/\cN Tryz.prog 159 1=some 1/\cN Tryz.prog 161 0=some 0/\cN Tryz.prog 161 1=some 7/\cN Tryz.prog 199 0=some 0/\cN Tryz.prog 199 1=some 1/\cN Tryz.prog 199 2=some 2/\cN Tryz.prog 266 0=some 0/\cN Tryz.prog 266 1=some 1/\cN Tryz.prog 272 0=some 0/\cN Tryz.prog 278 0=some 0/\cN Tryz.prog 278 1=some 1/\cN Tryz.prog 278 2=some 2/\cN Tryz.prog 27 0=some 0/\cN Tryz.prog 27 1=some 1/\cN Tryz.prog 27 2=some 2/\cN Tryz.prog 27 3=some 3/\cN Tryz.prog 29 0=some 0/\cN Tryz.prog 29 1=some 1/\cN Tryz.prog 29 2=some 2/\cN Tryz.prog 31 0=some 0/\cN Tryz.prog 31 1=some 1/\cN Tryz.prog 31 2=some 4/\cN Tryz.prog 31 3=some 5/\cN Tryz.prog 31 4=some 6/\cN Tryz.prog 353 0=some 0/\cN Tryz.prog 353 1=some 1/\cN Tryz.prog 388 0=some 0/\cN Tryz.prog 388 1=some 1/\cN Tryz.prog 38 0=some 0/\cN Tryz.prog 38 1=some 1/\cN Tryz.prog 38 2=some 4/\cN Tryz.prog 38 3=some 5/\cN Tryz.prog 42 0=some 0/\cN Tryz.prog 42 1=some 1/\cN Tryz.prog 42 2=some 2/\cN Tryz.prog 42 3=some 8/\cN Tryz.prog 42 4=some 9/\cN Tryz.prog 42 5=some 10/\cN Tryz.prog 48 0=some 0/\cN Tryz.prog 48 1=some 1/\cN Tryz.prog 52 0=some 0/\cN Tryz.prog 52 1=some 1/\cN Tryz.prog 52 2=some 2/\cN Tryz.prog 52 3=some 3/\cN Tryz.prog 62 0=some 0:=by (repeat' apply And.intro)<;>kernel_rfl
theorem tz2:cN Tryz.prog 67 0=some 0/\cN Tryz.prog 67 1=some 1/\cN Tryz.prog 67 2=some 2/\cN Tryz.prog 67 3=some 3/\cN Tryz.prog 67 4=some 7/\cN Tryz.prog 67 5=some 8/\cN Tryz.prog 67 6=some 9/\cN Tryz.prog 75 0=some 0/\cN Tryz.prog 75 1=some 1/\cN Tryz.prog 75 2=some 2/\cN Tryz.prog 75 3=some 3/\cN Tryz.prog 79 0=some 0/\cN Tryz.prog 79 1=some 1/\cN Tryz.prog 79 2=some 2/\cN Tryz.prog 79 3=some 3/\cN Tryz.prog 79 4=some 4/\cN Tryz.prog 79 5=some 5/\cN Tryz.prog 79 6=some 6/\cN Tryz.prog 79 7=some 13/\cN Tryz.prog 79 8=some 20/\cN Tryz.prog 89 0=some 0/\cN Tryz.prog 92 0=some 0/\qv Tryz.prog 4=true/\ea Tryz.prog 134=true/\ea Tryz.prog 146=true/\ea Tryz.prog 157=true/\ea Tryz.prog 22=true/\ea Tryz.prog 23=true/\ea Tryz.prog 24=true/\ea Tryz.prog 25=true/\ea Tryz.prog 275=true/\ea Tryz.prog 340=true/\ea Tryz.prog 351=true/\ea Tryz.prog 36=true/\ea Tryz.prog 369=true/\ea Tryz.prog 39=true/\ea Tryz.prog 40=true/\ea Tryz.prog 43=true/\ea Tryz.prog 58=true/\ea Tryz.prog 65=true/\ea Tryz.prog 68=true/\ea Tryz.prog 72=true/\ea Tryz.prog 76=true/\ea Tryz.prog 77=true/\ea Tryz.prog 80=true/\ea Tryz.prog 9=false/\ea Tryz.prog 93=true/\ea Tryz.prog 99=true/\cP Tryz.prog 134=false/\cP Tryz.prog 146=false/\cP Tryz.prog 157=false/\cP Tryz.prog 22=false/\cP Tryz.prog 23=false/\cP Tryz.prog 24=false/\cP Tryz.prog 25=false/\cP Tryz.prog 275=false/\cP Tryz.prog 340=false/\cP Tryz.prog 351=false/\cP Tryz.prog 36=false/\cP Tryz.prog 369=false:=by (repeat' apply And.intro)<;>kernel_rfl
theorem tz3:cP Tryz.prog 39=false/\cP Tryz.prog 40=false/\cP Tryz.prog 43=false/\cP Tryz.prog 58=false/\cP Tryz.prog 65=false/\cP Tryz.prog 68=false/\cP Tryz.prog 72=false/\cP Tryz.prog 76=false/\cP Tryz.prog 77=false/\cP Tryz.prog 80=false/\cP Tryz.prog 9=true/\cP Tryz.prog 93=false/\cP Tryz.prog 99=false/\Ja Tryz.prog 216=some .i64/\tk Tryz.prog 100=some (false,1,(.pointer none))/\tk Tryz.prog 104=some (true,2,(.agg #[(.string ⟨#[]⟩),(.string ⟨#[]⟩)]))/\tk Tryz.prog 119=some (true,7,(.agg #[(.int .i64 (0)),(.int .i64 (0)),(.int .i64 (0)),(.int .i64 (0)),(.string ⟨#[]⟩),(.int .i64 (0)),(.slice none 0 0)]))/\tk Tryz.prog 121=some (false,1,(.pointer none))/\tk Tryz.prog 133=some (false,1,(.pointer none))/\tk Tryz.prog 134=some (false,1,(.slice none 0 0))/\tk Tryz.prog 136=some (true,2,(.agg #[(.pointer none),(.slice none 0 0)]))/\tk Tryz.prog 144=some (true,2,(.agg #[(.int .i64 (0)),(.int .i64 (0))]))/\tk Tryz.prog 145=some (false,1,(.pointer none))/\tk Tryz.prog 146=some (false,1,(.slice none 0 0))/\tk Tryz.prog 157=some (false,1,(.slice none 0 0))/\tk Tryz.prog 159=some (true,2,(.agg #[(.slice none 0 0),(.int .i64 (0))]))/\tk Tryz.prog 161=some (true,8,(.agg #[(.int .i64 (0)),(.int .i64 (0)),(.int .i64 (0)),(.string ⟨#[]⟩),(.string ⟨#[]⟩),(.string ⟨#[]⟩),(.slice none 0 0),(.string ⟨#[]⟩)]))/\tk Tryz.prog 199=some (true,3,(.agg #[(.int .i64 (0)),(.string ⟨#[]⟩),(.int .i64 (0))]))/\tk Tryz.prog 2=some (false,1,(.int .i64 (0)))/\tk Tryz.prog 21=some (false,1,(.int .i32 (0)))/\tk Tryz.prog 211=some (false,1,(.pointer none))/\tk Tryz.prog 22=some (false,1,(.slice none 0 0))/\tk Tryz.prog 23=some (false,1,(.slice none 0 0))/\tk Tryz.prog 24=some (false,1,(.slice none 0 0))/\tk Tryz.prog 25=some (false,1,(.slice none 0 0))/\tk Tryz.prog 268=some (false,1,(.pointer none))/\tk Tryz.prog 27=some (true,4,(.agg #[(.slice none 0 0),(.slice none 0 0),(.slice none 0 0),(.int .i64 (0))]))/\tk Tryz.prog 278=some (true,3,(.agg #[(.slice none 0 0),(.int .i64 (0)),(.bool false)]))/\tk Tryz.prog 29=some (true,3,(.agg #[(.int .i64 (0)),(.int .i64 (0)),(.string ⟨#[]⟩)]))/\tk Tryz.prog 3=some (false,1,(.int .i64 (0)))/\tk Tryz.prog 303=some (false,1,(.slice none 0 0))/\tk Tryz.prog 31=some (true,7,(.agg #[(.int .i64 (0)),(.int .i64 (0)),(.int .i64 (0)),(.string ⟨#[]⟩),(.string ⟨#[]⟩),(.string ⟨#[]⟩),(.slice none 0 0)]))/\tk Tryz.prog 32=some (false,1,(.int .i64 (0)))/\tk Tryz.prog 325=some (false,1,.nilFunc)/\tk Tryz.prog 353=some (true,2,(.agg #[(.slice none 0 0),(.slice none 0 0)]))/\tk Tryz.prog 36=some (false,1,(.slice none 0 0))/\tk Tryz.prog 38=some (true,6,(.agg #[(.int .i64 (0)),(.int .i64 (0)),(.int .i64 (0)),(.string ⟨#[]⟩),(.int .i64 (0)),(.slice none 0 0)]))/\tk Tryz.prog 388=some (true,2,(.agg #[(.int .i64 (0)),(.int .i64 (0))]))/\tk Tryz.prog 39=some (false,1,(.slice none 0 0))/\tk Tryz.prog 4=some (false,1,(.bool false))/\tk Tryz.prog 40=some (false,1,(.slice none 0 0))/\tk Tryz.prog 42=some (true,11,(.agg #[(.int .i64 (0)),(.int .i64 (0)),(.int .i64 (0)),(.int .i64 (0)),(.int .i64 (0)),(.string ⟨#[]⟩),(.int .i64 (0)),(.slice none 0 0),(.slice none 0 0),(.slice none 0 0),(.slice none 0 0)]))/\tk Tryz.prog 43=some (false,1,(.slice none 0 0))/\tk Tryz.prog 48=some (true,2,(.agg #[(.string ⟨#[]⟩),(.int .i64 (0))]))/\tk Tryz.prog 52=some (true,14,(.agg #[(.string ⟨#[]⟩),(.slice none 0 0),(.bool false),(.int .i64 (0)),(.int .i64 (0)),(.int .i64 (0)),(.int .i64 (0)),(.int .i64 (0)),(.string ⟨#[]⟩),(.int .i64 (0)),(.slice none 0 0),(.slice none 0 0),(.slice none 0 0),(.slice none 0 0)]))/\tk Tryz.prog 58=some (false,1,(.slice none 0 0))/\tk Tryz.prog 62=some (true,2,(.agg #[(.int .i64 (0)),(.int .i64 (0))]))/\tk Tryz.prog 65=some (false,1,(.slice none 0 0))/\tk Tryz.prog 67=some (true,16,(.agg #[(.int .i64 (0)),(.string ⟨#[]⟩),(.slice none 0 0),(.slice none 0 0),(.slice none 0 0),(.slice none 0 0),(.int .i64 (0)),(.slice none 0 0),(.bool false),(.int .i64 (0)),(.int .i64 (0)),(.int .i64 (0)),(.string ⟨#[]⟩),(.string ⟨#[]⟩),(.string ⟨#[]⟩),(.slice none 0 0)]))/\tk Tryz.prog 68=some (false,1,(.slice none 0 0)):=by (repeat' apply And.intro)<;>kernel_rfl
theorem tz4:tk Tryz.prog 75=some (true,10,(.agg #[(.int .i64 (0)),(.string ⟨#[]⟩),(.string ⟨#[]⟩),(.int .i64 (0)),(.int .i64 (0)),(.int .i64 (0)),(.string ⟨#[]⟩),(.string ⟨#[]⟩),(.string ⟨#[]⟩),(.slice none 0 0)]))/\tk Tryz.prog 76=some (false,1,(.slice none 0 0))/\tk Tryz.prog 77=some (false,1,(.slice none 0 0))/\tk Tryz.prog 79=some (true,21,(.agg #[(.bool false),(.bool false),(.slice none 0 0),(.slice none 0 0),(.bool false),(.bool false),(.int .i64 (0)),(.int .i64 (0)),(.int .i64 (0)),(.string ⟨#[]⟩),(.string ⟨#[]⟩),(.string ⟨#[]⟩),(.slice none 0 0),(.int .i64 (0)),(.int .i64 (0)),(.int .i64 (0)),(.string ⟨#[]⟩),(.string ⟨#[]⟩),(.string ⟨#[]⟩),(.slice none 0 0),(.slice none 0 0)]))/\tk Tryz.prog 80=some (false,1,(.slice none 0 0))/\tk Tryz.prog 89=some (true,1,(.agg #[(.int .i64 (0))]))/\tk Tryz.prog 9=some (false,1,(.string ⟨#[]⟩))/\tk Tryz.prog 93=some (false,1,(.slice none 0 0))/\tk Tryz.prog 96=some (false,1,(.pointer none))/\tk Tryz.prog 98=some (false,1,(.pointer none))/\tk Tryz.prog 99=some (false,1,(.slice none 0 0)):=by (repeat' apply And.intro)<;>kernel_rfl
attribute [go_sem] tz0 tz1 tz2 tz3 tz4 Rx SL mB Yd QE jD uQ ZC YD Zv xV Gd YJ X3 acZ E7 FP Pz Yt Xo Sk O1 ml JI K0 RF Ph mI Yc OL jL uG abg aa3 Y0 yo Eh abf XY ae9 Gv F3 S7 X1 Yo OD SY mm J7 Kz
attribute [go_sem ↓] V8 Zj ado
set_option maxRecDepth 10000
def gC (v:V):Int:=
 if v.k=1 then 0 else if v.k=2 then (if v.n≠0/\v.n≠1 then 3 else 0) else if v.k=3 then (if v.n>1000000000000000\/v.n< -1000000000000000 then 3 else 0)
 else if v.k=4 then (if v.t.length>60 then 4 else 0) else 1
theorem iU (v:V)(M:aS):Ct Tryz.prog 127 [.agg ⟨v.cs⟩] M [] [] (fun r _ _ _=>r=.int .i64 (gC v)) aO:=by
 intro T
 obtain ⟨k,n,t⟩:=v
 refine aC agf rfl rfl ?_
 intro _ _
 simp +contextual only [go_sem,aE,sevalprocAttr,V.cs]
 intro b T1 _ hT _
 (repeat' split)<;>(refine am hT ?_;refine cS ?_;simp only [gC];grind)
theorem zT (v:V)(M:aS):Ct Tryz.prog 60 [.agg ⟨v.cs⟩] M [] [] (fun r _ _ _=>r=.int .i64 (gC v)) aO:=by
 intro T
 obtain ⟨k,n,t⟩:=v
 refine aC F60 rfl rfl ?_
 intro _ _
 simp +contextual only [go_sem,aE,sevalprocAttr,V.cs]
 intro b T1 _ hT _
 (repeat' split)<;>(refine am hT ?_;refine cS ?_;simp only [gC];grind)
def kW (k:Int):Int:=if k=1\/k=2\/k=19 then 0 else if k=3\/k=16\/(20<=k/\k<=23) then 1 else if (4<=k/\k<=15)\/k=18 then 2 else if k=17 then 3 else -1
theorem Eg (k:Int)(M:aS):Ct Tryz.prog 233 [.int .i64 k] M [] [] (fun r _ _ _=>r=.int .i64 (kW k)) aO:=by
 intro T
 refine aC ahF rfl rfl ?_
 intro _ _
 simp +contextual only [go_sem,aE,sevalprocAttr]
 (repeat' split)<;>(refine am aH.rfl' ?_;refine cS ?_;simp only [kW];grind)
def eF (c:Int):Bool:=(decide (97<=c) && decide (c<=122)) || decide (c=95)
def eH (c:Int):Bool:=decide (48<=c) && decide (c<=57)
theorem q7 (c:Int)(M:aS):Ct Tryz.prog 138 [.int .u8 c] M [] [] (fun r _ _ _=>r=.bool (eF c)) aO:=by
 intro T
 refine aC aiq rfl rfl ?_
 intro _ _
 simp +contextual only [go_sem,sevalprocAttr]
 refine am aH.rfl' ?_
 simp [eF]
theorem nL (c:Int)(M:aS):Ct Tryz.prog 141 [.int .u8 c] M [] [] (fun r _ _ _=>r=.bool (eH c)) aO:=by
 intro T
 refine aC af1 rfl rfl ?_
 intro _ _
 simp +contextual only [go_sem,sevalprocAttr]
 refine am aH.rfl' ?_
 simp [eH]
theorem VW (c:Int)(M:aS):Ct Tryz.prog 140 [.int .u8 c] M [] [] (fun r _ _ _=>r=.bool (eF c || eH c)) aO:=by
 intro T
 refine aC aia rfl rfl ?_
 intro _ _
 simp +contextual only [go_sem,sevalprocAttr]
 refine aD (q7 c M T) ?_
 rintro v M' hM bi rfl
 simp +contextual only [go_sem,sevalprocAttr]
 split
 ·rename_i h
  exact am aH.rfl' (by simp)
 ·rename_i h
  refine aD (nL c M' T) ?_
  rintro v M'' mW oX rfl
  simp +contextual only [go_sem,sevalprocAttr,h]
  exact am aH.rfl' (by simp)
theorem rf (c:Int)(M:aS):Ct Tryz.prog 53 [.int .u8 c] M [] [] (fun r _ _ _=>r=.bool (eF c)) aO:=by
 intro T
 refine aC F53 rfl rfl ?_
 intro _ _
 simp +contextual only [go_sem,sevalprocAttr]
 refine am aH.rfl' ?_
 simp [eF,Bool.or_comm]
theorem CO (c:Int)(M:aS):Ct Tryz.prog 54 [.int .u8 c] M [] [] (fun r _ _ _=>r=.bool (eH c)) aO:=by
 intro T
 refine aC F54 rfl rfl ?_
 intro _ _
 simp +contextual only [go_sem,sevalprocAttr]
 refine am aH.rfl' ?_
 simp [eH]
structure Tk where
 k:Int
 s:Bs
 at_:Int
def u9 (s:Bs):Bool:=decide (1<=s.length/\s.length<=16) && s.all fun c=>eH c.toNat
def gn (t:Tk)(cs:List Value):Prop:=cs=[.int .i64 t.k,st t.s,.int .i64 t.at_]/\(t.k=2 ->u9 t.s=true)
theorem qd {t:Tk}{cs}(h:gn t cs):cs.length=3:=by obtain ⟨rfl,_⟩:=h;rfl
def rd (e a:Int):List PanicEntry:=[{v:=.iface 144 (.agg #[.int .i64 e,.int .i64 a]),recovered:=false}]
theorem gu (e a:Int)(M:aS):Ct Tryz.prog 48 [.int .i64 e,.int .i64 a] M [] [] (fun _ _ _ _=>False) (fun ch _ _ _=>ch=rd e a):=by
 intro T
 refine aC F48 rfl rfl ?_
 intro _ _
 simp +contextual only [go_sem,sevalprocAttr]
 exact am aH.rfl' rfl
def oP (en:Int):List Tk ->Int | []=>en | t::_=>t.at_
def bH (s:Bs):List Tk ->Bool | []=>false | t::_=>decide (t.s=s) && (decide (t.k=1) || decide (t.k=4))
theorem aae {M:aS}{b o:Nat}{t:Tk}{cs}(h:gn t cs)(ha:At M b o cs):aQ M ⟨b,o,none⟩=some (.int .i64 t.k)/\aQ M ⟨b,o+1,none⟩=some (st t.s)/\aQ M ⟨b,o+2,none⟩=some (.int .i64 t.at_):=by
 obtain ⟨rfl,_⟩:=h
 exact ⟨ha.1,ha.2.1,ha.2.2.1⟩
theorem jj {M:aS}{aW:List Tk}{lv:Value}(h:RS M gn 3 aW lv):
 (aW=[]/\∃ a c,lv=.slice a 0 c)\/∃ t r b o c,aW=t::r/\lv=.slice (some ⟨b,o,none⟩) (r.length+1) c/\r.length+1<=c/\
  aQ M ⟨b,o,none⟩=some (.int .i64 t.k)/\aQ M ⟨b,o+1,none⟩=some (st t.s)/\aQ M ⟨b,o+2,none⟩=some (.int .i64 t.at_):=by
 obtain ⟨hb,a,c,rfl,dJ,_,fU⟩:=aF (by decide) (fun _ _=>qd) h
 cases aW with
 | nil=>exact .inl ⟨rfl,a,c,rfl⟩
 | cons t r=>
  obtain ⟨b,o,cs,rfl,ha,hr⟩:=fU 0 t rfl
  have:=aae hr ha
  simp only [Nat.zero_mul,Nat.add_zero] at this
  exact .inr ⟨t,r,b,o,c,rfl,rfl,dJ,this⟩
theorem Ts {M:aS}{t:Tk}{r:List Tk}{lv:Value}(h:RS M gn 3 (t::r) lv)(hk:t.k=2):u9 t.s=true:=by
 obtain ⟨_,xs,_,hl⟩:=h
 obtain ⟨cs,rest,_,h1,_⟩:=hl
 exact h1.2 hk
theorem J1 {M:aS}{pb:Nat}{aW:List Tk}{lv:Value}{en op:Int}(hl:RS M gn 3 aW lv):
 Ct Tryz.prog 49 [.pointer (some ⟨pb,0,none⟩)] M (pL pb lv en op) [] (fun r M' L' R'=>r=.int .i64 (oP en aW)/\M'=M/\L'=pL pb lv en op/\R'=[]) aO:=by
 intro T
 refine aC F49 rfl rfl ?_
 intro bi _
 simp only [aK] at bi
 rcases jj hl with ⟨rfl,a,c,rfl⟩ | ⟨t,r,b,o,c,rfl,rfl,hc,h0,h1,h2⟩
 ·simp +contextual only [go_sem,aE,sevalprocAttr,bi]
  exact aM aH.rfl' rfl rfl ⟨rfl,rfl,rfl,rfl⟩
 ·simp +contextual only [go_sem,aE,sevalprocAttr,bi,h2]
  exact aM aH.rfl' rfl rfl ⟨rfl,rfl,rfl,rfl⟩
theorem BI {M:aS}{pb:Nat}{aW:List Tk}{lv:Value}{en op:Int}(s:Bs)(hl:RS M gn 3 aW lv):
 Ct Tryz.prog 143 [.pointer (some ⟨pb,0,none⟩),st s] M (pL pb lv en op) [] (fun r M' L' R'=>r=.bool (bH s aW)/\M'=M/\L'=pL pb lv en op/\R'=[]) aO:=by
 intro T
 refine aC af2 rfl rfl ?_
 intro bi _
 simp only [aK] at bi
 rcases jj hl with ⟨rfl,a,c,rfl⟩ | ⟨t,r,b,o,c,rfl,rfl,hc,h0,h1,h2⟩
 ·simp +contextual only [go_sem,sevalprocAttr,bi]
  exact aM aH.rfl' rfl rfl ⟨rfl,rfl,rfl,rfl⟩
 ·simp +contextual only [go_sem,sevalprocAttr,bi,h0,h1]
  refine aM aH.rfl' rfl rfl ⟨?_,rfl,rfl,rfl⟩
  simp [bH]
theorem KI {M:aS}{pb:Nat}{aW:List Tk}{lv:Value}{en op:Int}(s:Bs)(hl:RS M gn 3 aW lv):
 Ct Tryz.prog 94 [.pointer (some ⟨pb,0,none⟩),st s] M (pL pb lv en op) [] (fun r M' L' R'=>r=.bool (bH s aW)/\M'=M/\R'=[]/\∃ lv',L'=pL pb lv' en op/\RS M gn 3 (if bH s aW=true then aW.tail else aW) lv') aO:=by
 intro T
 refine aC F94 rfl rfl ?_
 intro bi _
 simp +contextual only [go_sem,sevalprocAttr]
 refine fH [] (pL pb lv en op) [] [] [] [] (BI s hl T) ?_ (fun _ _ _ _ _ _ _ _ h=>h.elim)
 rintro v M' L' R' hM _ _ oX ⟨rfl,rfl,rfl,rfl⟩
 simp only [aK] at bi
 by_cases hs:bH s aW=true
 ·rcases jj hl with ⟨rfl,a,c,rfl⟩ | ⟨t,r,b,o,c,rfl,rfl,hc,h0,h1,h2⟩
  ·cases hs
  ·have Kb:(1:Int)<=((r.length+1:Nat):Int)/\r.length+1<=c:=⟨by omega,hc⟩
   simp +contextual only [go_sem,aE,sevalprocAttr,bi,hs,Kb]
   refine aM aH.rfl' rfl rfl ?_
   refine ⟨rfl,rfl,rfl,_,rfl,?_⟩
   have:=BZ (k:=1) (by decide) (fun _ _=>qd) hl (by simp)
   simpa using this
 ·simp +contextual only [go_sem,aE,sevalprocAttr,hs]
  exact aM aH.rfl' rfl rfl ⟨rfl,rfl,rfl,_,rfl,hl⟩
inductive Rs (α:Type) where
 | ok (a:α) (r:List Tk)
 | err (e a:Int)
 | out
def fu {α:Type}(pb:Nat)(en op:Int)(enc:α ->Value ->aS ->Prop)(res:Rs α):ez:=fun v M' L' R'=>∃ a r lv',res=.ok a r/\L'=pL pb lv' en op/\RS M' gn 3 r lv'/\R'=[]/\enc a v M'
def fW {α:Type}(pb:Nat)(en:Int)(res:Rs α):lX:=fun ch _ L' R'=>∃ e a lv' op',res=.err e a/\ch=rd e a/\L'=pL pb lv' en op'/\R'=[]
def bU (en:Int):List Bs ->List Tk ->Rs Unit
 | [],t=> .ok () t
 | s::l,t=>if bH s t=true then bU en l t.tail else .err 2 (oP en t)
theorem gp {N M R}{k:Sh ->Prop}{Lp:LL}:∀ (L1:LL),bK ⟨N,M,Lp,R⟩ k ->bK ⟨N,M,L1++Lp,R⟩ k
 | [],h=>h
 | (_,_)::L1,h=>ak (gp L1 h)
section
variable {α:Type} {T N:Tm} {M:aS} {R:RR} {dr:List (Nat×Sched)} {ts:List ResultVar} {post:ez} {pb:Nat} {lv0 lv:Value} {en op0 op:Int} {d:Option Nat} {s:List Vc.Item} {e:dj} {aW:List Tk} {F:Fi} {ds:List Deferred} {L1 L2:LL}
theorem JC {res:Rs α}{c a:Int}(L1:LL)(hT:aH T N)(h:res=.err c a):(fi Tryz.prog T dr ts (keys (pL pb lv0 en op0)) 0 post (fW pb en res)).pan (rd c a) e [] ⟨N,M,L1++pL pb lv en op,R⟩:=by
 rw [lT,jG]
 exact gp L1 (cz (aM hT rfl rfl ⟨c,a,lv,op,h,rfl,rfl,rfl⟩))
theorem fd {res:Rs α}{c a:Int}(L1:LL)(hT:aH T N)(h:res=.err c a):dk Tryz.prog (fi Tryz.prog T dr ts (keys (pL pb lv0 en op0)) 0 post (fW pb en res)) 48 [.int .i64 c,.int .i64 a] d s e [] ⟨N,M,L1++pL pb lv en op,R⟩ ⟨⟩:=by
 refine bS (gu c a M N) (fun _ _ _ _ h=>h.elim) ?_
 rintro ch M4 dh cE rfl
 exact JC L1 hT h
theorem lQ (L1:LL)(hl:RS M gn 3 aW lv)(k:cj Tryz.prog F s (cB e d (.int .i64 (oP en aW))) ds ⟨N,M,L1++pL pb lv en op,R⟩ ⟨⟩):
 dk Tryz.prog F 49 [.pointer (some ⟨pb,0,none⟩)] d s e ds ⟨N,M,L1++pL pb lv en op,R⟩ ⟨⟩:=by
 refine dz L1 (J1 hl N) (fun v M' L' _ _ bi h=> ?_) (fun _ _ _ _ _ _ h=>h.elim)
 obtain ⟨rfl,rfl,rfl, -⟩:=h
 exact k
theorem aaG (L1:LL)(x:Bs)(hl:RS M gn 3 aW lv)(k:cj Tryz.prog F s (cB e d (.bool (bH x aW))) ds ⟨N,M,L1++pL pb lv en op,R⟩ ⟨⟩):
 dk Tryz.prog F 143 [.pointer (some ⟨pb,0,none⟩),.string (bs x)] d s e ds ⟨N,M,L1++pL pb lv en op,R⟩ ⟨⟩:=by
 refine dz L1 (BI x hl N) (fun v M' L' _ _ bi h=> ?_) (fun _ _ _ _ _ _ h=>h.elim)
 obtain ⟨rfl,rfl,rfl, -⟩:=h
 exact k
theorem EC (L1:LL)(x:Bs)(hl:RS M gn 3 aW lv)(k:∀ lv',RS M gn 3 (if bH x aW=true then aW.tail else aW) lv' ->cj Tryz.prog F s (cB e d (.bool (bH x aW))) ds ⟨N,M,L1++pL pb lv' en op,R⟩ ⟨⟩):
 dk Tryz.prog F 94 [.pointer (some ⟨pb,0,none⟩),.string (bs x)] d s e ds ⟨N,M,L1++pL pb lv en op,R⟩ ⟨⟩:=by
 refine dz L1 (KI x hl N) (fun v M' L' _ _ bi h=> ?_) (fun _ _ _ _ _ _ h=>h.elim)
 obtain ⟨rfl,rfl, -,lv',rfl,gG⟩:=h
 exact k lv' gG
theorem ir (L1:LL)(x:Bs)(hl:RS M gn 3 aW lv)(k1:bH x aW=true ->∀ lv',RS M gn 3 aW.tail lv' ->cj Tryz.prog F s (cB e d (.bool true)) ds ⟨N,M,L1++pL pb lv' en op,R⟩ ⟨⟩)
 (k2:bH x aW=false ->∀ lv',RS M gn 3 aW lv' ->cj Tryz.prog F s (cB e d (.bool false)) ds ⟨N,M,L1++pL pb lv' en op,R⟩ ⟨⟩):
 dk Tryz.prog F 94 [.pointer (some ⟨pb,0,none⟩),.string (bs x)] d s e ds ⟨N,M,L1++pL pb lv en op,R⟩ ⟨⟩:=by
 refine EC L1 x hl fun lv' gG=> ?_
 cases hs:bH x aW with
 | true=>exact k1 hs lv' (by simpa [hs] using gG)
 | false=>exact k2 hs lv' (by simpa [hs] using gG)
theorem ru {f:FuncId}{args:List Value}{enc:α ->Value ->aS ->Prop}{res:Rs α}(L1:LL)(hc:cw Tryz.prog f args N M (pL pb lv en op) [] (fu pb en op enc res) (fW pb en res))
 (k:∀ v M' a r lv',bh M M' ->aJ M' (L1++pL pb lv' en op) ->res=.ok a r ->RS M' gn 3 r lv' ->enc a v M' ->cj Tryz.prog F s (cB e d v) ds ⟨N,M',L1++pL pb lv' en op,R⟩ ⟨⟩)
 (kp:∀ c a M' lv' op',bh M M' ->res=.err c a ->F.pan (rd c a) e ds ⟨N,M',L1++pL pb lv' en op',R⟩):
 dk Tryz.prog F f args d s e ds ⟨N,M,L1++pL pb lv en op,R⟩ ⟨⟩:=by
 refine dz L1 hc (fun v M' L' hM _ bi h=> ?_) (fun ch M' L' hM _ bi h=> ?_)
 ·obtain ⟨a,r,lv',ax,rfl,hr, -,he⟩:=h
  exact k v M' a r lv' hM bi ax hr he
 ·obtain ⟨c,a,lv',op',ax,rfl,rfl, -⟩:=h
  exact kp c a M' lv' op' hM ax
end
theorem un {M:aS}{pb:Nat}{aW:List Tk}{lv sv:Value}{en op:Int}{l:List Bs}(hl:RS M gn 3 aW lv)(hs:RS M pX 1 l sv):
 Ct Tryz.prog 51 [.pointer (some ⟨pb,0,none⟩),sv] M (pL pb lv en op) [] (fu pb en op (fun _ v _=>v=.tuple #[]) (bU en l aW)) (fW pb en (bU en l aW)):=by
 intro T
 obtain ⟨hb,a,c,rfl,dJ,_,fU⟩:=aF (by decide) (fun _ _=>ep) hs
 refine aC F51 rfl rfl ?_
 intro bi _
 simp +contextual only [go_sem,aE,sevalprocAttr]
 refine aY l.length 8 [(0,.pointer (some ⟨pb,0,none⟩)),(6,.slice a l.length c),(7,.int .i64 l.length)] (fun i e h=>∃ M' toks' lv',bh M M'/\h=⟨T,M',pL pb lv' en op,[]⟩/\M' pb=none/\RS M' gn 3 toks' lv'/\bU en l aW=bU en (l.drop i) toks') 0 (by omega) (by simp only [aG,go_sem,sevalprocAttr]) (by simp only [go_sem,sevalprocAttr]) ⟨M,aW,lv,bh.rfl',rfl,by simpa only [aK] using bi,hl,by simp⟩ ?_
 rintro i e h hi aI ht ⟨M',toks',lv',hM,rfl,oX,gG,ax⟩
 simp only [aG] at aI
 by_cases aN:i<l.length
 ·obtain ⟨b,o,cs,rfl,cG,cC⟩:=fU i l[i] (gq aN)
  unfold pX at cC;subst cC
  have hx:=ay hM cG.1
  rw [Nat.mul_one] at hx
  simp +contextual only [go_sem,aE,sevalprocAttr,aI,ht,aN,hx]
  refine fH [] (pL pb lv' en op) [] [] [] [] (KI l[i] gG T) ?_ (fun _ _ _ _ _ _ _ _ h=>h.elim)
  rintro v M'' L' R' mW _ _ XO ⟨rfl,rfl,rfl,lv'',rfl,YR⟩
  have bA:l.drop i=l[i]::l.drop (i+1):=dq aN
  rw [bA] at ax
  by_cases hs:bH l[i] toks'=true
  ·simp +contextual only [go_sem,aE,sevalprocAttr,ht,hs]
   refine cI aN ?_ ?_ ⟨M'',toks'.tail,lv'',hM,rfl,oX,by simpa [hs] using YR,by simpa [bU,hs] using ax⟩
   ·simp only [aG,aI,go_sem,sevalprocAttr]
   ·simp only [go_sem,sevalprocAttr,aB i (by omega)]
  ·simp +contextual only [go_sem,aE,sevalprocAttr,aI,hs]
   simp only [hs] at YR
   refine fH [] (pL pb lv'' en op) [] [] [] [] (J1 YR T) ?_ (fun _ _ _ _ _ _ _ _ h=>h.elim)
   rintro v M3 L' R' bM _ _ bj ⟨rfl,rfl,rfl,rfl⟩
   simp +contextual only [go_sem,sevalprocAttr,hs]
   refine fd [] aH.rfl' ?_
   rw [ax]
   simp [bU,hs]
 ·have:i=l.length:=by omega
  subst this
  simp +contextual only [go_sem,aE,sevalprocAttr,aI,ht,aN]
  refine aM aH.rfl' rfl rfl ⟨(),toks',lv',?_,rfl,gG,rfl,rfl⟩
  rw [ax]
  simp [bU]
def zf (x:Bs):List Bs ->Int
 | []=> -1
 | s::l=>if s=x then 0 else if zf x l<0 then -1 else zf x l+1
def n8 (x:Bs)(l:List Bs)(i:Nat):Int:=if zf x (l.drop i)<0 then -1 else zf x (l.drop i)+i
theorem Oz {M:aS}{l:List Bs}{sv:Value}(x:Bs)(hs:RS M pX 1 l sv):
 Ct Tryz.prog 170 [sv,st x] M [] [] (fun r _ _ _=>r=.int .i64 (n8 x l 0)) aO:=by
 intro T
 obtain ⟨hb,a,c,rfl,dJ,_,fU⟩:=aF (by decide) (fun _ _=>ep) hs
 refine aC aiX rfl rfl ?_
 intro bi _
 simp +contextual only [go_sem,aE,sevalprocAttr]
 refine aY l.length 8 [(0,.slice a l.length c),(1,st x),(6,.slice a l.length c),(7,.int .i64 l.length)] (fun i e h=>h=⟨T,M,[],[]⟩/\n8 x l 0=n8 x l i) 0 (by omega) (by simp only [aG,go_sem,sevalprocAttr]) (by simp only [go_sem,sevalprocAttr]) ⟨rfl,rfl⟩ ?_
 rintro i e h hi aI ht ⟨rfl,ax⟩
 simp only [aG,st] at aI
 by_cases aN:i<l.length
 ·obtain ⟨b,o,cs,rfl,cG,cC⟩:=fU i l[i] (gq aN)
  unfold pX at cC;subst cC
  have hx:=cG.1
  rw [Nat.mul_one] at hx
  have bA:l.drop i=l[i]::l.drop (i+1):=dq aN
  simp +contextual only [go_sem,aE,sevalprocAttr,aI,ht,aN,hx]
  split
  ·rename_i he
   refine am aH.rfl' ?_
   rw [he] at ax
   rw [ax]
   unfold n8
   rw [bA]
   simp only [zf,if_true]
   simp
  ·rename_i he
   refine cI aN ?_ ?_ ⟨rfl,?_⟩
   ·simp only [aG,aI,go_sem,sevalprocAttr]
   ·simp only [go_sem,sevalprocAttr,aB i (by omega)]
   ·rw [ax]
    simp only [n8,bA,zf,if_neg (Ne.symm he)]
    split<;>split<;>omega
 ·have:i=l.length:=by omega
  subst this
  simp +contextual only [go_sem,aE,sevalprocAttr,aI,ht,aN]
  refine am aH.rfl' ?_
  rw [ax]
  simp [n8,zf]
theorem O5 (x:Bs)(l:List Bs):(0<=zf x l) ↔ x∈l:=by
 induction l with
 | nil=>simp [zf]
 | cons s l ih=>
  simp only [zf,List.mem_cons]
  split
  ·rename_i h;simp [h]
  ·rename_i h
   have hx:x≠s:=fun he=>h he.symm
   rw [show (x=s\/x∈l) ↔ x∈l from by simp [hx],<- ih]
   split<;>omega
theorem pu {M:aS}{l:List Bs}{sv:Value}(x:Bs)(hs:RS M pX 1 l sv):
 Ct Tryz.prog 106 [sv,st x] M [] [] (fun r _ _ _=>r=.bool (l.contains x)) aO:=by
 intro T
 refine aC ae1 rfl rfl ?_
 intro bi _
 simp +contextual only [go_sem,sevalprocAttr]
 refine aD (Oz x hs T) ?_
 rintro v M' hM bi rfl
 simp +contextual only [go_sem,sevalprocAttr]
 refine am aH.rfl' ?_
 simp only [n8,List.drop_zero]
 have:=O5 x l
 by_cases hm:x∈l
 ·have h0:=this.2 hm
  rw [if_neg (by omega)]
  simp [hm,h0]
 ·have h0:¬ 0<=zf x l:=fun h=>hm (this.1 h)
  rw [if_pos (by omega)]
  simp [hm]
end Go.Proofs.YtmccpbcbofhmlaaGreatDoor
namespace Go.Proofs
open Go.Shelf
def Tryz.lays137_ren:Go.Shelf.Ren:=⟨fun | 137=>92 | 217=>137 | 266=>181 | n=>n,fun | 9=>9 | 5=>5 | 3=>3 | n=>n,fun | n=>n⟩
theorem Tryz.lays137:Go.Proofs.Lays.n137 Tryz.prog Tryz.lays137_ren:={
 mixed:=by kernel_rfl
 f137:=Tryz.func92.trans (congrArg some (by kernel_rfl))
 f217:=Tryz.func137.trans (congrArg some (by kernel_rfl))
 f266:=Tryz.func181.trans (congrArg some (by kernel_rfl))
 t3:=Tryz.underlying3
 a3:=Tryz.isAgg3
 z3:=Tryz.sizeOf3
 v3:=Tryz.zeroValue3
 t5:=Tryz.underlying5
 a5:=Tryz.isAgg5
 z5:=Tryz.sizeOf5
 v5:=Tryz.zeroValue5
 t9:=Tryz.underlying9
 a9:=Tryz.isAgg9
 z9:=Tryz.sizeOf9
 v9:=Tryz.zeroValue9}
open Go.RowKit in
theorem Tryz.strings_IndexByte (s:ByteArray)(c:Int)(w:World):
 Calls Tryz.prog 92 #[.string s,.int .u8 c] w fun e w'=>e=.returned (.int .i64 (Lib.indexByte s.data.toList c.toNat.toUInt8))/\w'=w:=Any.strings_IndexByte Tryz.lays137 s c w
def Tryz.laysC174_ren:Go.Shelf.Ren:=⟨fun | 174=>188 | 247=>240 | 245=>241 | 287=>282 | 279=>283 | 280=>284 | 281=>285 | 282=>286 | 321=>308 | 322=>309 | 316=>310 | 171=>72 | 205=>311 | 243=>112 | 246=>171 | 283=>220 | 284=>221 | 285=>222 | 286=>223 | 129=>265 | 317=>264 | 318=>266 | 319=>267 | 320=>268 | 337=>301 | 338=>302 | n=>n,fun | 9=>9 | 3=>3 | 2=>2 | 75=>230 | 85=>283 | 4=>4 | 167=>374 | 5=>5 | 53=>312 | 175=>375 | 46=>363 | 168=>377 | 37=>134 | 0=>0 | 210=>403 | 21=>21 | 127=>196 | 145=>427 | 143=>425 | 171=>311 | 173=>315 | 212=>359 | 51=>360 | 20=>20 | 213=>361 | 232=>410 | 233=>411 | 80=>142 | n=>n,fun | 15=>6 | 16=>7 | 17=>1 | 18=>8 | 19=>9 | n=>n⟩
theorem Tryz.laysC174:Go.Proofs.LaysC.n174 Tryz.prog Tryz.laysC174_ren:={
 mixed:=by kernel_rfl
 f129:=Tryz.func265.trans (congrArg some (by kernel_rfl))
 f171:=Tryz.func72.trans (congrArg some (by kernel_rfl))
 f174:=Tryz.func188.trans (congrArg some (by kernel_rfl))
 f205:=Tryz.func311.trans (congrArg some (by kernel_rfl))
 f243:=Tryz.func112.trans (congrArg some (by kernel_rfl))
 f245:=Tryz.func241.trans (congrArg some (by kernel_rfl))
 f246:=Tryz.func171.trans (congrArg some (by kernel_rfl))
 f247:=Tryz.func240.trans (congrArg some (by kernel_rfl))
 f279:=Tryz.func283.trans (congrArg some (by kernel_rfl))
 f280:=Tryz.func284.trans (congrArg some (by kernel_rfl))
 f281:=Tryz.func285.trans (congrArg some (by kernel_rfl))
 f282:=Tryz.func286.trans (congrArg some (by kernel_rfl))
 f283:=Tryz.func220.trans (congrArg some (by kernel_rfl))
 f284:=Tryz.func221.trans (congrArg some (by kernel_rfl))
 f285:=Tryz.func222.trans (congrArg some (by kernel_rfl))
 f286:=Tryz.func223.trans (congrArg some (by kernel_rfl))
 f287:=Tryz.func282.trans (congrArg some (by kernel_rfl))
 f316:=Tryz.func310.trans (congrArg some (by kernel_rfl))
 f317:=Tryz.func264.trans (congrArg some (by kernel_rfl))
 f318:=Tryz.func266.trans (congrArg some (by kernel_rfl))
 f319:=Tryz.func267.trans (congrArg some (by kernel_rfl))
 f320:=Tryz.func268.trans (congrArg some (by kernel_rfl))
 f321:=Tryz.func308.trans (congrArg some (by kernel_rfl))
 f322:=Tryz.func309.trans (congrArg some (by kernel_rfl))
 f337:=Tryz.func301.trans (congrArg some (by kernel_rfl))
 f338:=Tryz.func302.trans (congrArg some (by kernel_rfl))
 t0:=Tryz.underlying0
 a0:=Tryz.isAgg0
 z0:=Tryz.sizeOf0
 v0:=Tryz.zeroValue0
 t2:=Tryz.underlying2
 a2:=Tryz.isAgg2
 z2:=Tryz.sizeOf2
 v2:=Tryz.zeroValue2
 t3:=Tryz.underlying3
 a3:=Tryz.isAgg3
 z3:=Tryz.sizeOf3
 v3:=Tryz.zeroValue3
 t4:=Tryz.underlying4
 a4:=Tryz.isAgg4
 z4:=Tryz.sizeOf4
 v4:=Tryz.zeroValue4
 t5:=Tryz.underlying5
 a5:=Tryz.isAgg5
 z5:=Tryz.sizeOf5
 v5:=Tryz.zeroValue5
 t9:=Tryz.underlying9
 a9:=Tryz.isAgg9
 z9:=Tryz.sizeOf9
 v9:=Tryz.zeroValue9
 t20:=Tryz.underlying20
 a20:=Tryz.isAgg20
 z20:=Tryz.sizeOf20
 v20:=Tryz.zeroValue20
 t21:=Tryz.underlying21
 a21:=Tryz.isAgg21
 z21:=Tryz.sizeOf21
 v21:=Tryz.zeroValue21
 t37:=Tryz.underlying134
 a37:=Tryz.isAgg134
 z37:=Tryz.sizeOf134
 v37:=Tryz.zeroValue134
 t46:=Tryz.underlying363
 a46:=Tryz.isAgg363
 z46:=Tryz.sizeOf363
 v46:=Tryz.zeroValue363
 t51:=Tryz.underlying360
 a51:=Tryz.isAgg360
 z51:=Tryz.sizeOf360
 v51:=Tryz.zeroValue360
 t53:=Tryz.underlying312
 a53:=Tryz.isAgg312
 z53:=Tryz.sizeOf312
 v53:=Tryz.zeroValue312
 t75:=Tryz.underlying230
 a75:=Tryz.isAgg230
 z75:=Tryz.sizeOf230
 v75:=Tryz.zeroValue230
 t85:=Tryz.underlying283
 a85:=Tryz.isAgg283
 z85:=Tryz.sizeOf283
 v85:=Tryz.zeroValue283
 t127:=Tryz.underlying196
 a127:=Tryz.isAgg196
 z127:=Tryz.sizeOf196
 v127:=Tryz.zeroValue196
 t143:=Tryz.underlying425
 a143:=Tryz.isAgg425
 z143:=Tryz.sizeOf425
 v143:=Tryz.zeroValue425
 t145:=Tryz.underlying427
 a145:=Tryz.isAgg427
 z145:=Tryz.sizeOf427
 v145:=Tryz.zeroValue427
 t167:=Tryz.underlying374
 a167:=Tryz.isAgg374
 z167:=Tryz.sizeOf374
 v167:=Tryz.zeroValue374
 t168:=Tryz.underlying377
 a168:=Tryz.isAgg377
 z168:=Tryz.sizeOf377
 v168:=Tryz.zeroValue377
 t171:=Tryz.underlying311
 a171:=Tryz.isAgg311
 z171:=Tryz.sizeOf311
 v171:=Tryz.zeroValue311
 t173:=Tryz.underlying315
 a173:=Tryz.isAgg315
 z173:=Tryz.sizeOf315
 v173:=Tryz.zeroValue315
 t175:=Tryz.underlying375
 a175:=Tryz.isAgg375
 z175:=Tryz.sizeOf375
 v175:=Tryz.zeroValue375
 t210:=Tryz.underlying403
 a210:=Tryz.isAgg403
 z210:=Tryz.sizeOf403
 v210:=Tryz.zeroValue403
 t212:=Tryz.underlying359
 a212:=Tryz.isAgg359
 z212:=Tryz.sizeOf359
 v212:=Tryz.zeroValue359
 t213:=Tryz.underlying361
 a213:=Tryz.isAgg361
 z213:=Tryz.sizeOf361
 t232:=Tryz.underlying410
 a232:=Tryz.isAgg410
 z232:=Tryz.sizeOf410
 v232:=Tryz.zeroValue410
 t233:=Tryz.underlying411
 a233:=Tryz.isAgg411
 z233:=Tryz.sizeOf411
 v233:=Tryz.zeroValue411
 g15:=by kernel_rfl
 g16:=by kernel_rfl
 g17:=by kernel_rfl
 g18:=by kernel_rfl
 g19:=by kernel_rfl
 t80:=Tryz.underlying142
 a80:=Tryz.isAgg142
 z80:=Tryz.sizeOf142
 v80:=Tryz.zeroValue142
 i0:=by kernel_rfl
 i2:=by kernel_rfl
 i3:=by kernel_rfl
 i4:=by kernel_rfl
 i5:=by kernel_rfl
 i9:=by kernel_rfl
 i20:=by kernel_rfl
 i21:=by kernel_rfl
 i37:=by kernel_rfl
 i46:=by kernel_rfl
 i51:=by kernel_rfl
 i53:=by kernel_rfl
 i75:=by kernel_rfl
 i80:=by kernel_rfl
 i85:=by kernel_rfl
 i127:=by kernel_rfl
 i143:=by kernel_rfl
 i145:=by kernel_rfl
 i167:=by kernel_rfl
 i168:=by kernel_rfl
 i171:=by kernel_rfl
 i173:=by kernel_rfl
 i175:=by kernel_rfl
 i210:=by kernel_rfl
 i212:=by kernel_rfl
 i232:=by kernel_rfl
 i233:=by kernel_rfl
 m15:=by kernel_rfl
 m16:=by kernel_rfl
 m17:=by kernel_rfl
 m18:=by kernel_rfl
 m19:=by kernel_rfl
 c0:=by kernel_rfl
 c2:=by kernel_rfl
 c3:=by kernel_rfl
 c4:=by kernel_rfl
 c5:=by kernel_rfl
 c9:=by kernel_rfl
 c20:=by kernel_rfl
 c21:=by kernel_rfl
 c37:=by kernel_rfl
 c46:=by kernel_rfl
 c51:=by kernel_rfl
 c53:=by kernel_rfl
 c75:=by kernel_rfl
 c80:=by kernel_rfl
 c85:=by kernel_rfl
 c127:=by kernel_rfl
 c143:=by kernel_rfl
 c145:=by kernel_rfl
 c167:=by kernel_rfl
 c168:=by kernel_rfl
 c171:=by kernel_rfl
 c173:=by kernel_rfl
 c175:=by kernel_rfl
 c210:=by kernel_rfl
 c212:=by kernel_rfl
 c213:=by kernel_rfl
 c232:=by kernel_rfl
 c233:=by kernel_rfl}
open Go.RowKit in
theorem Tryz.strconv_ParseInt_10_at64_ok (s:ByteArray)(agE:s.size<=9223372036854775806)(v:Int)(h:Lib.parseIntB 64 s.data.toList=.ok v)(w:World):
 Calls Tryz.prog 188 #[.string s,.int .i64 10,.int .i64 64] w fun e w'=>e=.returned (.tuple #[.int .i64 v,.nilIface])/\(w'=w\/∃ t,w'=Lib.bytesWorld w 5 t):=Any.strconv_ParseInt_10_at64_ok Tryz.laysC174 s agE v h w
def Tryz.lays157_ren:Go.Shelf.Ren:=⟨fun | 157=>239 | 229=>280 | 199=>281 | 261=>307 | 311=>320 | 312=>321 | n=>n,fun | 9=>9 | 31=>93 | 3=>3 | 5=>5 | 4=>4 | 119=>371 | 0=>0 | 40=>373 | 152=>395 | 21=>21 | 154=>397 | 51=>360 | 141=>399 | 196=>417 | 193=>414 | 198=>420 | 49=>418 | 194=>415 | 201=>423 | 226=>428 | 46=>363 | 227=>429 | n=>n,fun | 0=>2 | 6=>5 | n=>n⟩
theorem Tryz.lays157:Go.Proofs.Lays.n157 Tryz.prog Tryz.lays157_ren:={
 mixed:=by kernel_rfl
 f157:=Tryz.func239.trans (congrArg some (by kernel_rfl))
 f199:=Tryz.func281.trans (congrArg some (by kernel_rfl))
 f229:=Tryz.func280.trans (congrArg some (by kernel_rfl))
 f261:=Tryz.func307.trans (congrArg some (by kernel_rfl))
 f311:=Tryz.func320.trans (congrArg some (by kernel_rfl))
 f312:=Tryz.func321.trans (congrArg some (by kernel_rfl))
 t0:=Tryz.underlying0
 a0:=Tryz.isAgg0
 z0:=Tryz.sizeOf0
 v0:=Tryz.zeroValue0
 t3:=Tryz.underlying3
 a3:=Tryz.isAgg3
 z3:=Tryz.sizeOf3
 v3:=Tryz.zeroValue3
 t4:=Tryz.underlying4
 a4:=Tryz.isAgg4
 z4:=Tryz.sizeOf4
 v4:=Tryz.zeroValue4
 t5:=Tryz.underlying5
 a5:=Tryz.isAgg5
 z5:=Tryz.sizeOf5
 v5:=Tryz.zeroValue5
 t9:=Tryz.underlying9
 a9:=Tryz.isAgg9
 z9:=Tryz.sizeOf9
 v9:=Tryz.zeroValue9
 t21:=Tryz.underlying21
 a21:=Tryz.isAgg21
 z21:=Tryz.sizeOf21
 v21:=Tryz.zeroValue21
 t31:=Tryz.underlying93
 a31:=Tryz.isAgg93
 z31:=Tryz.sizeOf93
 v31:=Tryz.zeroValue93
 t40:=Tryz.underlying373
 a40:=Tryz.isAgg373
 z40:=Tryz.sizeOf373
 v40:=Tryz.zeroValue373
 t46:=Tryz.underlying363
 a46:=Tryz.isAgg363
 z46:=Tryz.sizeOf363
 v46:=Tryz.zeroValue363
 t49:=Tryz.underlying418
 a49:=Tryz.isAgg418
 z49:=Tryz.sizeOf418
 v49:=Tryz.zeroValue418
 t51:=Tryz.underlying360
 a51:=Tryz.isAgg360
 z51:=Tryz.sizeOf360
 v51:=Tryz.zeroValue360
 t119:=Tryz.underlying371
 a119:=Tryz.isAgg371
 z119:=Tryz.sizeOf371
 t141:=Tryz.underlying399
 a141:=Tryz.isAgg399
 z141:=Tryz.sizeOf399
 v141:=Tryz.zeroValue399
 t152:=Tryz.underlying395
 a152:=Tryz.isAgg395
 z152:=Tryz.sizeOf395
 v152:=Tryz.zeroValue395
 t154:=Tryz.underlying397
 a154:=Tryz.isAgg397
 z154:=Tryz.sizeOf397
 v154:=Tryz.zeroValue397
 t193:=Tryz.underlying414
 a193:=Tryz.isAgg414
 z193:=Tryz.sizeOf414
 v193:=Tryz.zeroValue414
 t194:=Tryz.underlying415
 a194:=Tryz.isAgg415
 z194:=Tryz.sizeOf415
 v194:=Tryz.zeroValue415
 t196:=Tryz.underlying417
 a196:=Tryz.isAgg417
 z196:=Tryz.sizeOf417
 v196:=Tryz.zeroValue417
 t198:=Tryz.underlying420
 a198:=Tryz.isAgg420
 z198:=Tryz.sizeOf420
 v198:=Tryz.zeroValue420
 t201:=Tryz.underlying423
 a201:=Tryz.isAgg423
 z201:=Tryz.sizeOf423
 v201:=Tryz.zeroValue423
 t226:=Tryz.underlying428
 a226:=Tryz.isAgg428
 z226:=Tryz.sizeOf428
 v226:=Tryz.zeroValue428
 t227:=Tryz.underlying429
 a227:=Tryz.isAgg429
 z227:=Tryz.sizeOf429
 v227:=Tryz.zeroValue429
 g0:=by kernel_rfl
 g6:=by kernel_rfl}
open Go.RowKit Go.Lib in
theorem Tryz.strings_Fields (s:ByteArray)(w:World)(hs:s.size<4294967281)(aat:∀ (j:Nat) b,s.data.toList[j]?=some b ->b.toNat<128)(ajo:Lib.TabIs Tryz.prog w "strings.asciiSpace" .u8 Lib.asciiSpaceTab):
 Calls Tryz.prog 239 #[.string s] w fun e w'=>
  e=.returned (.slice (some ⟨w.heap.size,0,none⟩) (Lib.fields s.data.toList).length (Lib.fields s.data.toList).length)/\w'=w.alloc (.cells ((Lib.fields s.data.toList).map fun l=>Value.string ⟨l.toArray⟩).toArray 9):=Any.strings_Fields Tryz.lays157 (by kernel_rfl) (by kernel_rfl) s w hs aat ajo
end Go.Proofs
namespace Go.Proofs.YtmccpbcbofhmlaaGreatDoor
open Go Vc
set_option maxRecDepth 10000
def iM:List Bs:=[[99,114,101,97,116,101],
 [116,97,98,108,101],
 [118,105,101,119],
 [97,115],
 [105,110,115,101,114,116],
 [105,110,116,111],
 [118,97,108,117,101,115],
 [100,101,108,101,116,101],
 [102,114,111,109],
 [119,104,101,114,101],
 [115,104,111,119],
 [115,101,108,101,99,116],
 [100,105,115,116,105,110,99,116],
 [103,114,111,117,112],
 [98,121],
 [104,97,118,105,110,103],
 [117,110,105,111,110],
 [97,108,108],
 [101,120,99,101,112,116],
 [111,114,100,101,114],
 [108,105,109,105,116],
 [106,111,105,110],
 [108,101,102,116],
 [115,101,109,105],
 [97,110,116,105],
 [111,110],
 [97,110,100],
 [111,114],
 [110,111,116],
 [105,115],
 [110,117,108,108],
 [116,114,117,101],
 [102,97,108,115,101],
 [99,97,115,101],
 [119,104,101,110],
 [116,104,101,110],
 [101,108,115,101],
 [101,110,100],
 [99,111,97,108,101,115,99,101],
 [99,111,117,110,116],
 [115,117,109],
 [109,105,110],
 [109,97,120],
 [105,110,116],
 [116,101,120,116],
 [98,111,111,108]]
def eX (M:aS):Prop:=∀ g,Tryz.prog.globalNamed "strings.asciiSpace"=some g ->M g=some (Lib.asciiSpaceTab.map fun z=>Value.int .u8 z)
theorem eX.ext {M M':aS}(h:eX M)(he:bh M M'):eX M':=fun g hg=>he _ _ (h g hg)
theorem eX.tab {M:aS}{w:World}(h:eX M)(hw:pg M w):Lib.TabIs Tryz.prog w "strings.asciiSpace" .u8 Lib.asciiSpaceTab:=by
 unfold Lib.TabIs World.var?
 cases hg:Tryz.prog.globalNamed "strings.asciiSpace" with
 | none=>
  have h2:(Tryz.prog.globalNamed "strings.asciiSpace").isSome=true:=by kernel_rfl
  rw [hg] at h2;cases h2
 | some g=>
  obtain ⟨t,f,ht⟩:=hw g _ (h g hg)
  simp [ht]
theorem Nj {M:aS}(hg:eX M)(s:Bs)(hs:s.length<4294967281)(ha:s.all (fun b=>b.toNat<128)=true):
 Ct Tryz.prog 239 [st s] M [] [] (fun r M' _ _=>∃ b,r=.slice (some ⟨b,0,none⟩) (Lib.fields s).length (Lib.fields s).length/\M' b=some ((Lib.fields s).map st)) aO:=by
 refine Sg (t:=9) (cs:=(Lib.fields s).map st) (fun b=> .slice (some ⟨b,0,none⟩) (Lib.fields s).length (Lib.fields s).length) aaL fun w hw=> ?_
 have ha':∀ (j:Nat) b,(bs s).data.toList[j]?=some b ->b.toNat<128:=fun j b hj=>by
  have:=List.all_eq_true.1 ha b (List.mem_of_getElem? (by simpa [bs] using hj))
  simpa using this
 have h2:=Tryz.strings_Fields (bs s) w (by rw [ws];exact hs) ha' (hg.tab hw)
 have hd:(bs s).data.toList=s:=by simp [bs]
 rw [hd] at h2
 exact h2
theorem CC {M:aS}(hg:eX M):Ct Tryz.prog 183 [] M [] [] (fun r M' _ _=>RS M' pX 1 iM r) aO:=by
 intro T
 refine aC ahN rfl rfl ?_
 intro bi _
 simp +contextual only [go_sem,sevalprocAttr]
 refine aD (Nj hg _ (by decide) (by kernel_rfl) T) ?_
 rintro v M' hM _ ⟨b,rfl,hb⟩
 simp +contextual only [go_sem,sevalprocAttr]
 refine am aH.rfl' ?_
 have hw:∀ {s:Bs},Lib.fields s=iM ->M' b=some ((Lib.fields s).map st) ->RS M' pX 1 iM (.slice (some ⟨b,0,none⟩) (Lib.fields s).length (Lib.fields s).length):=by
  intro s h1 h2
  rw [h1] at h2 ⊢
  exact cK (fun _ _=>ep) h2 (kq _) rfl (by decide)
 exact hw (by kernel_rfl) hb
def zU (i:Nat)(c:UInt8):Bool:=eF c.toNat || (decide (i≠0) && eH c.toNat)
def gV:Nat ->Bs ->Bool
 | _,[]=>true
 | i,c::l=>zU i c && gV (i+1) l
def eM (s:Bs):Bool:=decide (1<=s.length/\s.length<=12) && !iM.contains s && gV 0 s
theorem iF {s:Bs}{i:Nat}(h:i<s.length):rS (bs s) i=s[i]:=by
 simp [rS,bs,h]
theorem sx {M:aS}(hg:eX M)(s:Bs):Ct Tryz.prog 144 [st s] M [] [] (fun r _ _ _=>r=.bool (eM s)) aO:=by
 intro T
 refine aC ajH rfl rfl ?_
 intro bi _
 simp +contextual only [go_sem,aE,sevalprocAttr]
 by_cases hl:(s.length:Int)<1\/12<(s.length:Int)
 ·rw [if_pos hl]
  refine am aH.rfl' ?_
  have:¬ (1<=s.length/\s.length<=12):=by omega
  simp [eM,this]
 ·rw [if_neg hl]
  have dJ:1<=s.length/\s.length<=12:=by omega
  refine aD (CC hg T) ?_
  rintro v M' hM _ hw
  simp +contextual only [go_sem,sevalprocAttr,hl]
  refine aD (pu s hw T) ?_
  rintro v' M2 bg _ rfl
  simp +contextual only [go_sem,aE,sevalprocAttr,hl]
  by_cases hc:iM.contains s=true
  ·simp only [hc,go_sem,sevalprocAttr]
   refine am aH.rfl' ?_
   rw [eM,hc];simp
  ·simp only [hc,go_sem,sevalprocAttr]
   refine aY s.length 20 [(0,st s),(19,.int .i64 s.length)] (fun i e h=>h=⟨T,M2,[],[]⟩/\gV 0 s=gV i (s.drop i)) 0 (by omega) (by simp only [aG,go_sem,sevalprocAttr]) (by simp only [go_sem,sevalprocAttr]) ⟨rfl,rfl⟩ ?_
   rintro i e h hi aI ht ⟨rfl,ax⟩
   simp only [aG,st] at aI
   by_cases aN:i<s.length
   ·have hx:=iF aN
    have bA:s.drop i=s[i]::s.drop (i+1):=dq aN
    rw [bA] at ax
    simp only [gV] at ax
    have h0:((i:Int)=0)=(i=0):=by simp
    simp +contextual only [go_sem,aE,sevalprocAttr,aI,ht,aN,hx]
    by_cases hk:zU i s[i]=true
    ·rw [if_neg (by simp only [zU,eF,eH,Bool.or_eq_true,Bool.and_eq_true,decide_eq_true_eq] at hk;omega)]
     refine cI aN ?_ ?_ ⟨rfl,?_⟩
     ·simp only [aG,aI,go_sem,sevalprocAttr]
     ·simp only [go_sem,sevalprocAttr,aB i (by omega)]
     ·rw [ax,hk];rfl
    ·rw [if_pos (by simp only [zU,eF,eH,Bool.or_eq_true,Bool.and_eq_true,decide_eq_true_eq] at hk;omega)]
     refine am aH.rfl' ?_
     simp only [Bool.not_eq_true] at hk
     rw [eM,ax,hk];simp
   ·have:i=s.length:=by omega
    subst this
    simp +contextual only [go_sem,aE,sevalprocAttr,aI,ht,aN]
    refine am aH.rfl' ?_
    have:gV 0 s=true:=by rw [ax];simp [gV]
    simp only [Bool.not_eq_true] at hc
    rw [eM,hc,this];simp [dJ]
def ij (en:Int):List Tk ->Rs Bs
 | []=> .err 2 en
 | t::r=>if t.k=1 then (if eM t.s=true then .ok t.s r else .err 7 t.at_) else .err 2 t.at_
theorem gO {M:aS}{pb:Nat}{aW:List Tk}{lv:Value}{en op:Int}(hg:eX M)(hl:RS M gn 3 aW lv):
 Ct Tryz.prog 95 [.pointer (some ⟨pb,0,none⟩)] M (pL pb lv en op) [] (fu pb en op (fun s v _=>v=st s) (ij en aW)) (fW pb en (ij en aW)):=by
 intro T
 refine aC F95 rfl rfl ?_
 intro bi _
 simp only [aK] at bi
 rcases jj hl with ⟨rfl,a,c,rfl⟩ | ⟨t,r,b,o,c,rfl,rfl,hc,h0,h1,h2⟩
 ·simp +contextual only [go_sem,aE,sevalprocAttr,bi]
  refine lQ [] hl ?_
  simp +contextual only [go_sem,sevalprocAttr]
  exact fd [] aH.rfl' rfl
 ·by_cases hk:t.k=1
  ·simp +contextual only [go_sem,aE,sevalprocAttr,bi,h0,h1,hk]
   refine aD (sx hg t.s T) ?_
   rintro v M3 bM bj rfl
   have eR:=aL bM (fun _ _ h=>h) hl
   simp only [aK] at bj
   by_cases hn:eM t.s=true
   ·have Kb:(1:Int)<=((r.length+1:Nat):Int)/\r.length+1<=c:=⟨by omega,hc⟩
    simp +contextual only [go_sem,aE,sevalprocAttr,hn,bj,Kb]
    refine aM aH.rfl' rfl rfl ⟨t.s,r,_,?_,rfl,?_,rfl,rfl⟩
    ·simp [ij,hk,hn]
    ·simpa using BZ (k:=1) (by decide) (fun _ _=>qd) eR (by simp)
   ·simp +contextual only [go_sem,aE,sevalprocAttr,hn]
    refine lQ [] eR ?_
    simp +contextual only [go_sem,sevalprocAttr]
    exact fd [] aH.rfl' (by simp [ij,hk,hn,oP])
  ·simp +contextual only [go_sem,aE,sevalprocAttr,bi,h0,hk]
   refine lQ [] hl ?_
   simp +contextual only [go_sem,sevalprocAttr]
   exact fd [] aH.rfl' (by simp [ij,hk,oP])
def zR (s:Bs):Nat:=s.foldl (fun n c=>n*10+(c.toNat - 48)) 0
theorem adR (l:Bs):∀ (acc k:Nat),acc<10 ^ k ->k+l.length<=16 ->(l.all fun c=>eH c.toNat)=true ->
 Lib.parseUintM (2 ^ 64 - 1) acc l=.ok (l.foldl (fun n c=>n*10+(c.toNat - 48)) acc)/\l.foldl (fun n c=>n*10+(c.toNat - 48)) acc<10 ^ (k+l.length):=by
 induction l with
 | nil=>intro acc k h _ _;exact ⟨rfl,by simpa using h⟩
 | cons c l ih=>
  intro acc k h hk hd
  simp only [List.all_cons,Bool.and_eq_true,eH,decide_eq_true_eq] at hd
  simp only [List.length_cons] at hk
  have hc:48<=c.toNat/\c.toNat<=57:=by omega
  have zk:acc<10 ^ 15:=Nat.lt_of_lt_of_le h (Nat.pow_le_pow_right (by decide) (by omega))
  have hn:acc*10+(c.toNat - 48)<10 ^ (k+1):=by rw [Nat.pow_succ];omega
  have:=ih (acc*10+(c.toNat - 48)) (k+1) hn (by omega) (by simpa [eH] using hd.2)
  simp only [Lib.parseUintM,if_pos hc,List.foldl_cons,List.length_cons]
  rw [if_neg (by omega),if_neg (by omega)]
  refine ⟨this.1,?_⟩
  rw [show k+(l.length+1)=k+1+l.length from by omega]
  exact this.2
theorem AS {s:Bs}(h:u9 s=true):Lib.parseIntB 64 s=.ok (zR s:Int)/\zR s<10 ^ 16:=by
 simp only [u9,Bool.and_eq_true,decide_eq_true_eq] at h
 obtain ⟨⟨h1,h2⟩,h3⟩:=h
 obtain ⟨hu,aN⟩:=adR s 0 0 (by decide) (by omega) h3
 have CV:zR s<10 ^ 16:=Nat.lt_of_lt_of_le aN (Nat.pow_le_pow_right (by decide) (by omega))
 refine ⟨?_,CV⟩
 cases s with
 | nil=>simp at h1
 | cons c r=>
  simp only [List.all_cons,Bool.and_eq_true,eH,decide_eq_true_eq] at h3
  have hc:¬ (c.toNat=43\/c.toNat=45):=by omega
  have Kb:¬ c.toNat=45:=by omega
  unfold Lib.parseIntB
  simp only [if_neg hc,Lib.parseUintB,if_neg (List.cons_ne_nil c r),hu]
  have:¬ (2 ^ (64 - 1)<=zR (c::r)):=by omega
  simp only [Kb,not_false_eq_true,true_and,false_and,if_false]
  change ¬ (2 ^ (64 - 1)<=List.foldl (fun n c=>n*10+(c.toNat - 48)) 0 (c::r)) at this
  rw [if_neg this]
  rfl
theorem D1 {M:aS}{s:Bs}(h:u9 s=true):Ct Tryz.prog 188 [st s,.int .i64 10,.int .i64 64] M [] [] (fun r M' _ _=>r=.tuple #[.int .i64 (zR s),.nilIface]/\M'=M) aO:=by
 refine wi aaD fun w hw=> ?_
 have hl:s.length<=16:=by
  simp only [u9,Bool.and_eq_true,decide_eq_true_eq] at h
  exact h.1.2
 have hd:(bs s).data.toList=s:=by simp [bs]
 refine Calls.mono (Tryz.strconv_ParseInt_10_at64_ok (bs s) (by rw [ws];omega) (zR s) (by rw [hd];exact (AS h).1) w) ?_
 rintro e w' ⟨rfl,gP⟩
 refine ⟨rfl,?_⟩
 rcases gP with rfl | ⟨t,rfl⟩
 ·exact jW.rfl'
 ·exact jW.bytes
def kF:Bs:=[45]
def qN (neg:Bool)(at0 en:Int):List Tk ->Rs Int
 | []=> .err 2 en
 | t::r=>if t.k=2 then (if (zR t.s:Int)>1000000000000000 then .err 3 at0 else .ok (if neg=true then -(zR t.s:Int) else zR t.s) r) else .err 2 t.at_
def vF (en:Int)(aW:List Tk):Rs Int:=qN (bH kF aW) (oP en aW) en (if bH kF aW=true then aW.tail else aW)
theorem DG {M:aS}{pb:Nat}{aW:List Tk}{lv:Value}{en op:Int}(hl:RS M gn 3 aW lv):
 Ct Tryz.prog 148 [.pointer (some ⟨pb,0,none⟩)] M (pL pb lv en op) [] (fu pb en op (fun n v _=>v=.int .i64 n) (vF en aW)) (fW pb en (vF en aW)):=by
 intro T
 refine aC ail rfl rfl ?_
 intro bi _
 simp only [aK] at bi
 simp +contextual only [go_sem,sevalprocAttr]
 refine lQ [] hl ?_
 simp +contextual only [go_sem,sevalprocAttr]
 refine EC [] kF hl ?_
 intro lv' gG
 generalize hg:(if bH kF aW=true then aW.tail else aW)=toks1 at gG
 have ax:vF en aW=qN (bH kF aW) (oP en aW) en toks1:=by unfold vF;rw [hg]
 rcases jj gG with ⟨rfl,a,c,rfl⟩ | ⟨t,r,b,o,c,rfl,rfl,hc,h0,h1,h2⟩
 ·simp +contextual only [go_sem,aE,sevalprocAttr,bi]
  refine lQ [] gG ?_
  simp +contextual only [go_sem,sevalprocAttr]
  exact fd [] aH.rfl' ax
 ·by_cases hk:t.k=2
  ·simp +contextual only [go_sem,aE,sevalprocAttr,bi,h0,h1,hk]
   have acD:=Ts gG hk
   have aN:=(AS acD).2
   refine aD (D1 acD T) ?_
   rintro v M3 bM bj ⟨rfl,rfl⟩
   simp only [qN,hk,if_true] at ax
   by_cases D7:(1000000000000000:Int)<(zR t.s:Int)
   ·simp +contextual only [go_sem,aE,sevalprocAttr,D7]
    exact fd [] aH.rfl' (by rw [ax,if_pos D7])
   ·have Kb:(1:Int)<=((r.length+1:Nat):Int)/\r.length+1<=c:=⟨by omega,hc⟩
    rw [if_neg D7] at ax
    have vB:RS M3 gn 3 r (.slice (kB (some ⟨b,o,none⟩) c 1 3) (r.length+1 - 1) (c - 1)):=by simpa using BZ (k:=1) (by decide) (fun _ _=>qd) gG (by simp)
    by_cases hs:bH kF aW=true
    ·simp +contextual only [go_sem,aE,sevalprocAttr,D7,bi,Kb,hs]
     refine aM aH.rfl' rfl rfl ⟨_,r,_,ax,rfl,?_,rfl,?_⟩
     ·simpa using vB
     ·simp only [hs,if_true]
      rw [S5 _ (by omega)]
    ·simp +contextual only [go_sem,aE,sevalprocAttr,D7,bi,Kb,hs]
     refine aM aH.rfl' rfl rfl ⟨_,r,_,ax,rfl,?_,rfl,?_⟩
     ·simpa using vB
     ·simp only [hs]
      rfl
  ·simp +contextual only [go_sem,aE,sevalprocAttr,bi,h0,hk]
   refine lQ [] gG ?_
   simp +contextual only [go_sem,sevalprocAttr]
   exact fd [] aH.rfl' (by simp [ax,qN,hk,oP])
def iI (k:Int):List Tk ->Bool | []=>false | t::_=>decide (t.k=k)
def Br:List Tk ->V | []=>⟨0,0,[]⟩ | t::_=>⟨4,0,t.s⟩
def Rs.map {α β:Type}(f:α ->β):Rs α ->Rs β
 | .ok a r=> .ok (f a) r
 | .err e a=> .err e a
 | .out=> .out
def qR:Bs:=[110,117,108,108]
def Xn:Bs:=[116,114,117,101]
def Sw:Bs:=[102,97,108,115,101]
def jm (en:Int)(aW:List Tk):Rs (Option V):=
 if bH qR aW=true then .ok (some ⟨1,0,[]⟩) aW.tail
 else if bH Xn aW=true then .ok (some ⟨2,1,[]⟩) aW.tail
 else if bH Sw aW=true then .ok (some ⟨2,0,[]⟩) aW.tail
 else if bH kF aW=true\/iI 2 aW=true then (vF en aW).map fun n=>some ⟨3,n,[]⟩
 else if iI 3 aW=true then .ok (some (Br aW)) aW.tail
 else .ok none aW
def PY (o:Option V)(v:Value)(_:aS):Prop:=match o with
 | some x=>v=.tuple #[.agg ⟨x.cs⟩,.bool true]
 | none=>v=.tuple #[.agg ⟨(⟨0,0,[]⟩:V).cs⟩,.bool false]
theorem xl {M:aS}{pb:Nat}{aW:List Tk}{lv:Value}{en op:Int}(hl:RS M gn 3 aW lv):
 Ct Tryz.prog 151 [.pointer (some ⟨pb,0,none⟩)] M (pL pb lv en op) [] (fu pb en op PY (jm en aW)) (fW pb en (jm en aW)):=by
 intro T
 refine aC aii rfl rfl ?_
 intro bi _
 simp only [aK] at bi
 simp +contextual only [go_sem,aE,sevalprocAttr]
 intro b2 T2 ey fX hT hTb
 refine ir [(b2,_)] qR hl (fun gF lv1 gI=> ?_) (fun gF lv1 gI=> ?_)
 ·simp +contextual only [go_sem,aE,sevalprocAttr,ey]
  exact ak (aM hT rfl rfl ⟨some ⟨1,0,[]⟩,aW.tail,lv1,by simp [jm,gF],rfl,gI,rfl,rfl⟩)
 simp +contextual only [go_sem,aE,sevalprocAttr]
 refine ir [(b2,_)] Xn gI (fun lZ lv2 eD=> ?_) (fun lZ lv2 eD=> ?_)
 ·simp +contextual only [go_sem,aE,sevalprocAttr,ey]
  exact ak (aM hT rfl rfl ⟨some ⟨2,1,[]⟩,aW.tail,lv2,by simp [jm,gF,lZ],rfl,eD,rfl,rfl⟩)
 simp +contextual only [go_sem,aE,sevalprocAttr]
 refine ir [(b2,_)] Sw eD (fun FU lv3 eR=> ?_) (fun FU lv3 eR=> ?_)
 ·simp +contextual only [go_sem,aE,sevalprocAttr,ey]
  exact ak (aM hT rfl rfl ⟨some ⟨2,0,[]⟩,aW.tail,lv3,by simp [jm,gF,lZ,FU],rfl,eR,rfl,rfl⟩)
 simp +contextual only [go_sem,aE,sevalprocAttr]
 refine aaG [(b2,_)] kF eR ?_
 have yE:jm en aW=if bH kF aW=true\/iI 2 aW=true then (vF en aW).map fun n=>some ⟨3,n,[]⟩
  else if iI 3 aW=true then .ok (some (Br aW)) aW.tail else .ok none aW:=by simp [jm,gF,lZ,FU]
 rcases jj eR with ⟨rfl,a,c,rfl⟩ | ⟨t,r,b,o,c,rfl,rfl,hc,h0,h1,h2⟩
 ·simp +contextual only [go_sem,aE,sevalprocAttr,fX,ey,bi,bH]
  refine ak (aM hT rfl rfl ⟨none,[],_,?_,rfl,eR,rfl,rfl⟩)
  simp [yE,bH,iI]
 ·by_cases hm:bH kF (t::r)=true\/t.k=2
  ·have hv:jm en (t::r)=(vF en (t::r)).map fun n=>some ⟨3,n,[]⟩:=by
    rw [yE,if_pos]
    simpa [iI] using hm
   simp +contextual only [go_sem,aE,sevalprocAttr,fX,bi,h0,hm]
   refine ru [(b2,_)] (DG eR T2) ?_ (fun c a M' lv' op' hM h=>JC [(b2,_)] hT (by rw [hv,h];rfl))
   rintro v M' n r' lv' hM oX ax gG rfl
   simp only [nn,aJ,aK] at oX
   simp +contextual only [go_sem,sevalprocAttr,oX]
   exact ak (aM hT rfl rfl ⟨some ⟨3,n,[]⟩,r',lv',by rw [hv,ax];rfl,rfl,gG,rfl,rfl⟩)
  ·have hv:jm en (t::r)=if t.k=3 then .ok (some ⟨4,0,t.s⟩) r else .ok none (t::r):=by
    rw [yE,if_neg (by simpa [iI] using hm)]
    simp [iI,Br]
   simp only [not_or] at hm
   simp +contextual only [go_sem,aE,sevalprocAttr,fX,ey,bi,h0,h1,hm]
   by_cases hk:t.k=3
   ·have Kb:(1:Int)<=((r.length+1:Nat):Int)/\r.length+1<=c:=⟨by omega,hc⟩
    rw [if_pos hk] at hv
    simp +contextual only [go_sem,sevalprocAttr,hk]
    intro b4 T4 dI dY fj gH
    simp +contextual only [go_sem,sevalprocAttr,fX,ey,hm,hk,dI,dY,Kb]
    refine ak (ak (aM (hT.trans fj) rfl rfl ⟨_,r,_,hv,rfl,?_,rfl,rfl⟩))
    simpa using BZ (k:=1) (by decide) (fun _ _=>qd) eR (by simp)
   ·rw [if_neg hk] at hv
    simp +contextual only [go_sem,sevalprocAttr,hk]
    exact ak (aM hT rfl rfl ⟨none,t::r,_,hv,rfl,eR,rfl,rfl⟩)
theorem NR {M:aS}{pb b:Nat}{lv:Value}{en op:Int}(hb:M b=some [.pointer (some ⟨pb,0,none⟩)])(T:Tm):
 CtD Tryz.prog 189 [.pointer (some ⟨b,0,none⟩)] T M (pL pb lv en op) [] (fun _ M' L' _=>M'=M/\L'=pL pb lv en (IntKind.i64.wrap (op - 1))) aO:=by
 refine QV ajl rfl rfl ?_
 intro bi _
 simp only [aK] at bi
 simp +contextual only [go_sem,sevalprocAttr,aX hb,bi]
 refine aM aH.rfl' rfl rfl ?_
 exact ⟨rfl,rfl⟩
theorem Kf {M:aS}{pb:Nat}{aW:List Tk}{lv:Value}{en op:Int}(hl:RS M gn 3 aW lv)(h0:0<=op)(h1:op<=1000):
 Ct Tryz.prog 152 [.pointer (some ⟨pb,0,none⟩)] M (pL pb lv en op) [] (fun r M' L' _=>op+1<=100/\L'=pL pb lv en (op+1)/\∃ b,r=.func (.func 189) #[] #[.pointer (some ⟨b,0,none⟩)]/\M' b=some [.pointer (some ⟨pb,0,none⟩)])
  (fun ch _ L' _=>¬ op+1<=100/\ch=rd 4 (oP en aW)/\∃ op',L'=pL pb lv en op'):=by
 intro T
 refine aC ajR rfl rfl ?_
 intro bi _
 simp only [aK] at bi
 simp +contextual only [go_sem,aE,sevalprocAttr,bi]
 intro b T2 hb fX hT hTb
 have hw:IntKind.i64.wrap (op+1)=op+1:=bJ (by omega) (by omega)
 simp +contextual only [go_sem,sevalprocAttr,hw]
 by_cases D7:(100:Int)<op+1
 ·simp +contextual only [go_sem,sevalprocAttr,D7]
  refine lQ [(b,_)] hl ?_
  simp +contextual only [go_sem,sevalprocAttr]
  refine bS (gu 4 (oP en aW) M _) (fun _ _ _ _ h=>h.elim) ?_
  rintro ch M4 dh cE rfl
  rw [lT,jG]
  refine ak (aM hT rfl rfl ?_)
  exact ⟨by omega,rfl,_,rfl⟩
 ·simp +contextual only [go_sem,sevalprocAttr,D7]
  refine aT fun he h1 h2=> ?_
  refine aM hT rfl rfl ?_
  exact ⟨by omega,rfl,b,rfl,h1⟩
def mL (k:Int)(kids:List X):X:=.mk k ⟨0,0,[]⟩ [] [] kids
def G1 (x:X)(v:Value)(M:aS):Prop:=∃ cs,v=.agg ⟨cs⟩/\RX M x cs
theorem Ep {M:aS}{k:Int}{kids:List X}{s:Value}(h:RS M (RX M) 7 kids s):RX M (mL k kids) [.int .i64 k,.int .i64 0,.int .i64 0,st [],st [],st [],s]:=
 rL.2 ⟨s,rfl,h⟩
theorem Cz {cs:List Value}(h:cs.length=7):∃ a b c d e f g,cs=[a,b,c,d,e,f,g]:=by
 match cs,h with
 | [a,b,c,d,e,f,g],_=>exact ⟨a,b,c,d,e,f,g,rfl⟩
theorem bR {M:aS}{x:X}{cs}(h:RX M x cs):∃ s,cs=[.int .i64 x.k,.int .i64 x.v.k,.int .i64 x.v.n,st x.v.t,st x.tab,st x.name,s]/\s.oneCell'=true/\RS M (RX M) 7 x.kids s:=by
 obtain ⟨s,rfl,hs⟩:=rL.1 h
 refine ⟨s,rfl,?_,hs⟩
 obtain ⟨_,_,h2,_⟩:=hs
 rcases h2 with ⟨_,_,rfl,_⟩ | ⟨b,o,n,c,rfl,_⟩<;>rfl
theorem Ar {M:aS}(k:Int){x:X}{cs:List Value}(hx:RX M x cs):Ct Tryz.prog 191 [.int .i64 k,.agg ⟨cs⟩] M [] [] (fun v M' _ _=>G1 (mL k [x]) v M') aO:=by
 intro T
 obtain ⟨s,rfl,h1,hs⟩:=bR hx
 refine aC agD rfl rfl ?_
 intro bi _
 simp +contextual only [go_sem,sevalprocAttr]
 intro b T1 hb cV hTb b1 T2 fD IS dV ig b2 ey gx
 refine aT fun he hM _=> ?_
 refine am (cV.trans dV) ?_
 refine ⟨_,rfl,Ep ?_⟩
 exact cK (l:=[x]) (fun _ _ h=>dl h) hM (cA (bB he _ _ hx)) rfl (by decide)
theorem Hg {M:aS}(k:Int){x y:X}{cs ds:List Value}(hx:RX M x cs)(hy:RX M y ds):Ct Tryz.prog 193 [.int .i64 k,.agg ⟨cs⟩,.agg ⟨ds⟩] M [] [] (fun v M' _ _=>G1 (mL k [x,y]) v M') aO:=by
 intro T
 obtain ⟨s,rfl,h1,hs⟩:=bR hx
 obtain ⟨s',rfl,qC,Dm⟩:=bR hy
 refine aC agC rfl rfl ?_
 intro bi _
 simp +contextual only [go_sem,sevalprocAttr]
 intro b T1 hb cV hTb b1 T2 fD IS dV ig b2 T3 ey gx fB fG b3 gj cL
 refine aT fun he hM _=> ?_
 refine am ((cV.trans dV).trans fB) ?_
 refine ⟨_,rfl,Ep ?_⟩
 exact cK (l:=[x,y]) (fun _ _ h=>dl h) hM (cM (cA (bB he _ _ hx)) (cA (bB he _ _ hy))) rfl (by decide)
structure Lvl where
 signs:List Bs
 kind:Int
 once:Bool
def UC (M:aS)(l:Lvl)(cs:List Value):Prop:=∃ s,RS M pX 1 l.signs s/\(l.signs=[] ->s=.slice none 0 0)/\(l.signs≠[] ->∃ b n,s=.slice (some ⟨b,0,none⟩) n n)/\cs=[s,.int .i64 l.kind,.bool l.once]
theorem En {M:aS}{l:Lvl}{cs}(h:UC M l cs):cs.length=3:=by obtain ⟨_,_,_,_,rfl⟩:=h;rfl
def p6:List Lvl:=[⟨[[111,114]],5,false⟩,⟨[[97,110,100]],4,false⟩,⟨[],0,false⟩,⟨[[61],[60,62],[60],[60,61],[62],[62,61]],6,true⟩,⟨[[43],[45]],12,false⟩,⟨[[42]],14,false⟩,⟨[[124,124]],15,false⟩]
theorem qA {M:aS}{l:List Bs}{k:Int}{o:Bool}{b n:Nat}(h:M b=some (l.map st))(hl:l.length=n)(hn:n<=100)(cD:l≠[]):UC M ⟨l,k,o⟩ [.slice (some ⟨b,0,none⟩) n n,.int .i64 k,.bool o]:=
 ⟨_,cK (fun _ _=>ep) h (kq l) hl (by omega),fun h=>(cD h).elim,fun _=>⟨b,n,rfl⟩,rfl⟩
theorem Ni {M:aS}:Ct Tryz.prog 180 [] M [] [] (fun v M' _ _=>RS M' (UC M') 3 p6 v) aO:=by
 intro T
 refine aC aih rfl rfl ?_
 intro bi _
 simp +contextual only [go_sem,sevalprocAttr]
 intro b0 h0 b1 h1 a1 b2 h2 a2 b3 h3 a3 b4 h4 a4 b5 h5 a5 b6 h6 a6
 refine lf fun M' he hM=> ?_
 obtain ⟨k6,k5,k4,k3,k2,k1,k0,_⟩:=hM
 refine am aH.rfl' ?_
 refine cK (l:=p6) (fun _ _ h=>En h) k6 ?_ rfl (by decide)
 refine ⟨_,_,rfl,qA k0 rfl (by decide) (by decide),_,_,rfl,qA k1 rfl (by decide) (by decide),[_,_,_],_,rfl,⟨.slice none 0 0,⟨by decide,[],.inl ⟨none,0,rfl,rfl,fun _=>rfl⟩,rfl⟩,fun _=>rfl,fun h=>(h rfl).elim,rfl⟩,_,_,rfl,qA k2 rfl (by decide) (by decide),_,_,rfl,qA k3 rfl (by decide) (by decide),
  _,_,rfl,qA k4 rfl (by decide) (by decide),_,_,rfl,qA k5 rfl (by decide) (by decide),rfl⟩
def bD:List Bs ->List Tk ->Option Nat
 | [],_=>none
 | s::l,t=>if bH s t=true then some 0 else (bD l t).map (·+1)
def Fo (o:Option Nat):Int:=match o with | some j=>j | none=> -1
def DQ (o:Option Nat)(t:List Tk):List Tk:=match o with | some _=>t.tail | none=>t
theorem sH {M:aS}{pb:Nat}{aW:List Tk}{lv sv:Value}{en op:Int}{l:List Bs}(hl:RS M gn 3 aW lv)(hs:RS M pX 1 l sv):
 Ct Tryz.prog 192 [sv,.func (.func 94) #[.pointer (some ⟨pb,0,none⟩)] #[]] M (pL pb lv en op) []
  (fun v M' L' _=>v=.int .i64 (Fo (bD l aW))/\M'=M/\∃ lv',L'=pL pb lv' en op/\RS M gn 3 (DQ (bD l aW) aW) lv') aO:=by
 intro T
 obtain ⟨hb,a,c,rfl,dJ,_,fU⟩:=aF (by decide) (fun _ _=>ep) hs
 refine aC ajT rfl rfl ?_
 intro bi _
 simp only [aK] at bi
 simp +contextual only [go_sem,aE,sevalprocAttr]
 refine aY l.length 8 [(0,.slice a l.length c),(1,.func (.func 94) #[.pointer (some ⟨pb,0,none⟩)] #[]),(6,.slice a l.length c),(7,.int .i64 l.length)] (fun i e h=>(∃ lv',h=⟨T,M,pL pb lv' en op,[]⟩/\RS M gn 3 aW lv')/\bD l aW=(bD (l.drop i) aW).map (·+i)) 0 (by omega) (by simp only [aG,go_sem,sevalprocAttr]) (by simp only [go_sem,sevalprocAttr]) ⟨⟨lv,rfl,hl⟩,by simp⟩ ?_
 rintro i e h hi aI ht ⟨⟨lv',rfl,gG⟩,ax⟩
 simp only [aG] at aI
 by_cases aN:i<l.length
 ·obtain ⟨b,o,cs,rfl,cG,cC⟩:=fU i l[i] (gq aN)
  unfold pX at cC;subst cC
  have hx:=cG.1
  rw [Nat.mul_one] at hx
  have bA:l.drop i=l[i]::l.drop (i+1):=dq aN
  rw [bA] at ax
  simp +contextual only [go_sem,aE,sevalprocAttr,aI,ht,aN,hx]
  refine ir [] l[i] gG (fun hs lv2 eD=> ?_) (fun hs lv2 eD=> ?_)
  ·simp +contextual only [go_sem,aE,sevalprocAttr]
   refine aM aH.rfl' rfl rfl ?_
   have:bD l aW=some i:=by rw [ax];simp [bD,hs]
   rw [this]
   exact ⟨rfl,rfl,lv2,rfl,eD⟩
  ·simp +contextual only [go_sem,aE,sevalprocAttr,ht]
   refine cI aN ?_ ?_ ⟨⟨lv2,rfl,eD⟩,?_⟩
   ·simp only [aG,aI,go_sem,sevalprocAttr]
   ·simp only [go_sem,sevalprocAttr,aB i (by omega)]
   ·rw [ax]
    simp only [bD,hs,Bool.false_eq_true,if_false,Option.map_map]
    congr 1
    funext n
    simp only [Function.comp];omega
 ·have:i=l.length:=by omega
  subst this
  simp +contextual only [go_sem,aE,sevalprocAttr,aI,ht,aN]
  refine aM aH.rfl' rfl rfl ?_
  have:bD l aW=none:=by rw [ax];simp [bD]
  rw [this]
  exact ⟨rfl,rfl,lv',rfl,gG⟩
abbrev X5:Bs:=[99,97,115,101]
abbrev Xu:Bs:=[119,104,101,110]
abbrev XI:Bs:=[116,104,101,110]
abbrev X8:Bs:=[101,108,115,101]
abbrev adU:Bs:=[101,110,100]
abbrev XF:Bs:=[99,111,97,108,101,115,99,101]
abbrev Sd:Bs:=[99,111,117,110,116]
abbrev xF:Bs:=[115,117,109]
abbrev xi:Bs:=[109,105,110]
abbrev wI:Bs:=[109,97,120]
abbrev yp:Bs:=[110,111,116]
abbrev wIs:Bs:=[105,115]
abbrev qZ:Bs:=[40]
abbrev kh:Bs:=[41]
abbrev kg:Bs:=[44]
abbrev xz:Bs:=[42]
abbrev adI:Bs:=[46]
abbrev KQ:Bs:=[59]
def Rs.bind {α β:Type}(r:Rs α)(f:α ->List Tk ->Rs β):Rs β:=match r with
 | .ok a t=>f a t
 | .err e a=> .err e a
 | .out=> .out
section
variable {α β:Type} {T N:Tm} {M:aS} {R:RR} {dr:List (Nat×Sched)} {ts:List ResultVar} {post:ez} {pb:Nat} {lv0 lv:Value} {en op0 op:Int} {d:Option Nat} {s:List Vc.Item} {e:dj} {aW:List Tk} {L1:LL}
theorem bZ {f:FuncId}{args:List Value}{enc:α ->Value ->aS ->Prop}{res:Rs β}{g:Rs α}{Fk:α ->List Tk ->Rs β}(L1:LL)(hT:aH T N)(hp:res=g.bind Fk)(cD:res≠ .out)
 (hc:g≠ .out ->cw Tryz.prog f args N M (pL pb lv en op) [] (fu pb en op enc g) (fW pb en g))
 (k:∀ v M' a r lv',bh M M' ->aJ M' (L1++pL pb lv' en op) ->res=Fk a r ->RS M' gn 3 r lv' ->enc a v M' ->
  cj Tryz.prog (fi Tryz.prog T dr ts (keys (pL pb lv0 en op0)) 0 post (fW pb en res)) s (cB e d v) [] ⟨N,M',L1++pL pb lv' en op,R⟩ ⟨⟩):
 dk Tryz.prog (fi Tryz.prog T dr ts (keys (pL pb lv0 en op0)) 0 post (fW pb en res)) f args d s e [] ⟨N,M,L1++pL pb lv en op,R⟩ ⟨⟩:=by
 have hg:g≠ .out:=fun h=>cD (by rw [hp,h];rfl)
 refine ru L1 (hc hg) (fun v M' a r lv' hM bi ax hr he=>k v M' a r lv' hM bi (by rw [hp,ax];rfl) hr he) ?_
 intro c a M' lv' op' hM ax
 exact JC L1 hT (by rw [hp,ax];rfl)
theorem dN {res:Rs β}{Fk:Unit ->List Tk ->Rs β}(L1:LL){x:Bs}{b:Nat}(hT:aH T N)(hp:res=(bU en [x] aW).bind Fk)(hl:RS M gn 3 aW lv)
 (k:∀ M' lv',bh M M' ->aJ M' (L1++pL pb lv' en op) ->res=Fk () aW.tail ->RS M' gn 3 aW.tail lv' ->
  cj Tryz.prog (fi Tryz.prog T dr ts (keys (pL pb lv0 en op0)) 0 post (fW pb en res)) s (cB e d (.tuple #[])) [] ⟨N,M',L1++pL pb lv' en op,R⟩ ⟨⟩):
 dk Tryz.prog (fi Tryz.prog T dr ts (keys (pL pb lv0 en op0)) 0 post (fW pb en res)) 51 [.pointer (some ⟨pb,0,none⟩),.slice (some ⟨b,0,none⟩) 1 1] d s e [] ⟨N,M,(b,[.string (bs x)])::(L1++pL pb lv en op),R⟩ ⟨⟩:=by
 refine di F51.bd fun M1 aV hb bG=> ?_
 have gI:=aL aV (fun _ _ h=>h) hl
 have hs:RS M1 pX 1 [x] (.slice (some ⟨b,0,none⟩) 1 1):=cK (fun _ _=>ep) hb (kq [x]) rfl (by decide)
 refine ru L1 (un gI hs N) ?_ ?_
 ·rintro v M' a r lv' hM bi ax hr rfl
  have hr2:r=aW.tail:=by
   simp only [bU] at ax
   split at ax
   ·injection ax with _ h;exact h.symm
   ·cases ax
  subst hr2
  exact k M' lv' (aV.trans hM) bi (by rw [hp,ax];rfl) hr
 ·intro c a M' lv' op' hM ax
  exact JC L1 hT (by rw [hp,ax];rfl)
end
def YE (v:V):X:=.mk 1 v [] [] []
def mF (en:Int)(ex:List Tk ->Rs X)(aW:List Tk):Rs X:=
 (jm en aW).bind fun v t=>match v with
  | some v=> .ok (YE v) t
  | none=>
   if bH qZ t=true then (ex t.tail).bind fun x t=>(bU en [kh] t).bind fun _ t=> .ok x t
   else if bH X5 t=true then (bU en [Xu] t.tail).bind fun _ t=>(ex t).bind fun a t=>(bU en [XI] t).bind fun _ t=>(ex t).bind fun b t=>
    (bU en [X8] t).bind fun _ t=>(ex t).bind fun c t=>(bU en [adU] t).bind fun _ t=> .ok (mL 17 [a,b,c]) t
   else if bH XF t=true then (bU en [qZ] t.tail).bind fun _ t=>(ex t).bind fun a t=>(bU en [kg] t).bind fun _ t=>(ex t).bind fun b t=>(bU en [kh] t).bind fun _ t=> .ok (mL 18 [a,b]) t
   else if bH Sd t=true then (bU en [qZ] t.tail).bind fun _ t=>
    if bH xz t=true then (bU en [kh] t.tail).bind fun _ t=> .ok (mL 19 []) t
    else (ex t).bind fun a t=>(bU en [kh] t).bind fun _ t=> .ok (mL 20 [a]) t
   else match bD [xF,xi,wI] t with
    | some i=>(bU en [qZ] t.tail).bind fun _ t=>(ex t).bind fun a t=>(bU en [kh] t).bind fun _ t=> .ok (mL (21+i) [a]) t
    | none=>(ij en t).bind fun n t=>if bH adI t=true then (ij en t.tail).bind fun m t=> .ok (.mk 2 ⟨0,0,[]⟩ n m []) t else .ok (.mk 2 ⟨0,0,[]⟩ [] n []) t
def Xr (en:Int)(pb:Nat)(ex:List Tk ->Rs X)(op:Int):Prop:=∀ (M:aS) (aW:List Tk) (lv:Value) (T:Tm),eX M ->RS M gn 3 aW lv ->ex aW≠ .out ->
 cw Tryz.prog 101 [.pointer (some ⟨pb,0,none⟩)] T M (pL pb lv en op) [] (fu pb en op G1 (ex aW)) (fW pb en (ex aW))
theorem aau {M:aS}(v:V):RX M (YE v) [.int .i64 1,.int .i64 v.k,.int .i64 v.n,st v.t,st [],st [],.slice none 0 0]:=
 rL.2 ⟨.slice none 0 0,rfl,Nat.zero_le _,[],.inl ⟨_,_,rfl,rfl,fun _=>rfl⟩,rfl⟩
theorem jf {M:aS}{x:X}{cs:List Value}(h:RX M x cs):∀ u∈cs,u.oneCell'=true:=by
 obtain ⟨s,rfl,h1,_⟩:=bR h
 intro u hu
 simp only [mn] at hu
 rcases hu with rfl | rfl | rfl | rfl | rfl | rfl | rfl<;>first | rfl | exact h1
theorem Sr {a b:List Value}{n:Nat}(ha:a.length+b.length=n)(hn:n<=4398046511104):a.length+b.length<=4398046511104:=by omega
theorem Pt {M:aS}{pb:Nat}{aW:List Tk}{lv:Value}{en op:Int}{ex:List Tk ->Rs X}(hg:eX M)(hl:RS M gn 3 aW lv)(ib:Xr en pb ex op)(cD:mF en ex aW≠ .out)(T:Tm):
 cw Tryz.prog 190 [.pointer (some ⟨pb,0,none⟩)] T M (pL pb lv en op) [] (fu pb en op G1 (mF en ex aW)) (fW pb en (mF en ex aW)):=by
 refine aC agw rfl rfl ?_
 intro bi _
 simp only [aK] at bi
 simp +contextual only [go_sem,sevalprocAttr]
 intro b2 T2 ey gx dV fG
 refine bZ [(b2,_)] dV rfl cD (fun _=>xl hl T2) ?_
 intro v M1 o t lv1 aV bG ax gI hv
 have ly:=hg.ext aV
 simp only [nn,aJ,aK] at bG
 cases o with
 | some x=>
  simp only [PY] at hv;subst hv
  simp +contextual only [go_sem,aE,sevalprocAttr,bG,V.cs]
  intro b3 T3 gj cL fB hZ
  refine ak (ak (aM (dV.trans fB) rfl rfl ?_))
  exact ⟨YE x,t,lv1,ax,rfl,gI,rfl,_,rfl,aau x⟩
 | none=>
  simp only [PY] at hv;subst hv
  simp +contextual only [go_sem,aE,sevalprocAttr,V.cs]
  intro b3 T3 gj cL fB hZ
  simp only at ax
  have hT:=dV.trans fB
  refine ir [(b3,_),(b2,_)] qZ gI (fun hs lv2 eD=> ?_) (fun hs lv2 eD=> ?_)
  ·rw [if_pos hs] at ax
   simp +contextual only [go_sem,aE,sevalprocAttr]
   refine bZ [(b3,_),(b2,_)] hT ax cD (fun h=>ib M1 _ lv2 T3 ly eD h) ?_
   rintro v M2 x t2 lv3 bg aZ ax eR ⟨cs,rfl,hx⟩
   obtain ⟨s,rfl,h1,_⟩:=bR hx
   simp only [nn,aJ,aK] at aZ
   simp +contextual only [go_sem,sevalprocAttr,h1]
   intro b5 T5 mp gK nw o9 b6 oZ fq
   refine dN [(b5,_),(b3,_),(b2,_)] (hT.trans nw) ax eR ?_
   intro M3 lv4 bM bj ax jY
   simp only [nn,aJ,aK] at bj
   simp +contextual only [go_sem,sevalprocAttr,bj,cL,gK,h1]
   refine ak (ak (ak (aM (hT.trans nw) rfl rfl ?_)))
   exact ⟨x,_,lv4,ax,rfl,jY,rfl,_,rfl,bB bM _ _ hx⟩
  rw [if_neg (by simp [hs])] at ax
  clear hs
  simp +contextual only [go_sem,aE,sevalprocAttr]
  refine ir [(b3,_),(b2,_)] X5 eD (fun hs lv3 eR=> ?_) (fun hs lv3 eR=> ?_)
  ·rw [if_pos hs] at ax
   simp +contextual only [go_sem,aE,sevalprocAttr]
   intro b4 dI dY
   refine dN [(b3,_),(b2,_)] hT ax eR ?_
   intro M2 lv4 bg aZ ax jY
   simp +contextual only [go_sem,sevalprocAttr]
   refine bZ [(b3,_),(b2,_)] hT ax cD (fun h=>ib M2 _ lv4 T3 (ly.ext bg) jY h) ?_
   rintro v M3 x t2 lv5 bM bj ax gL ⟨cs,rfl,hx⟩
   obtain ⟨s,rfl,h1,_⟩:=bR hx
   simp only [nn,aJ,aK] at bj
   simp +contextual only [go_sem,sevalprocAttr]
   intro bk fS IY b6 T6 oZ fq sK BX b7 iN iV
   refine dN [(b6,_),(bk,_),(b3,_),(b2,_)] (hT.trans sK) ax gL ?_
   intro M4 lv6 dh cE ax lY
   simp only [nn,aJ,aK] at cE
   simp +contextual only [go_sem,sevalprocAttr]
   refine eL ⟨T,fun _=>none,[(b6,_)],[]⟩ (gA cE.1) ?_
   simp +contextual only [go_sem,sevalprocAttr]
   refine bZ [(b6,_),(bk,_),(b3,_),(b2,_)] (hT.trans sK) ax cD (fun h=>ib M4 _ lv6 T6 (((ly.ext bg).ext bM).ext dh) lY h) ?_
   rintro v M5 y t3 lv7 dF bE ax oE ⟨cs,rfl,hy⟩
   obtain ⟨s',rfl,qC,_⟩:=bR hy
   simp only [nn,aJ,aK] at bE
   simp +contextual only [go_sem,sevalprocAttr]
   refine ⟨gA bE.1,?_⟩
   intro b8 mG eA
   refine ⟨sD bE.1 (fun h=>eA.1.2 h),?_⟩
   refine jO uG uQ (.slice _ 1 _ _ _ Tryz.underlying25 (bL [] mG trivial rfl) (jf hy)) (bL [(b8,_),(b6,_)] bE.2.1 ⟨⟨eA.2.1.2,eA.2.1.1⟩,⟨fq.1.2,fq.1.1⟩,trivial⟩ rfl) (Nat.zero_lt_succ _) (Sr (n:=14) rfl (by decide)) ?_
   intro ra rm rc iL
   have ams:=mG
   simp +contextual only [go_sem,sevalprocAttr,eA]
   intro b9 lu eN
   refine dN [(b8,_),(b6,_),(bk,_),(b3,_),(b2,_)] (hT.trans sK) ax oE ?_
   intro M6 lv8 eg bN ax rJ
   simp only [nn,aJ,aK] at bN
   simp +contextual only [go_sem,sevalprocAttr]
   refine eL ⟨T,fun _=>none,[(b6,_)],[]⟩ (sD bN.2.1 (fun h=>eA.1.2 h)) ?_
   simp +contextual only [go_sem,sevalprocAttr]
   refine bZ [(b8,_),(b6,_),(bk,_),(b3,_),(b2,_)] (hT.trans sK) ax cD (fun h=>ib M6 _ lv8 T6 ((((ly.ext bg).ext bM).ext dh).ext dF |>.ext eg) rJ h) ?_
   rintro v M7 z t4 lv9 kT iO ax Ms ⟨cs,rfl,hz⟩
   obtain ⟨s'',rfl,WZ,_⟩:=bR hz
   simp only [nn,aJ,aK] at iO
   simp +contextual only [go_sem,sevalprocAttr]
   refine ⟨dw [(b8,_)] iO.2.1 ⟨⟨eA.1.2,eA.1.1⟩,trivial⟩,?_⟩
   intro ba hba Vz
   refine ⟨dw [(ba,_),(b8,_)] iO.2.1 ⟨⟨Vz.2.1.2,Vz.2.1.1⟩,⟨eA.1.2,eA.1.1⟩,trivial⟩,?_⟩
   refine fK uG uQ (.slice _ 1 _ _ _ Tryz.underlying25 (bL [] hba trivial rfl) (jf hz)) (Sr (n:=21) rfl (by decide)) ?_
   intro ra' rm' rc' al1
   simp +contextual only [go_sem,sevalprocAttr,eA,Vz]
   intro bb hbb se
   refine dN [(ba,_),(b8,_),(b6,_),(bk,_),(b3,_),(b2,_)] (hT.trans sK) ax Ms ?_
   intro M8 lva qm nu ax zj
   simp only [nn,aJ,aK] at nu
   simp +contextual only [go_sem,sevalprocAttr,nu,cL,IY,fq,eA,Vz]
   refine bT fun M9 Jn nM gi=> ?_
   refine ak (ak (ak (ak (ak (ak (aM (hT.trans sK) rfl rfl ?_))))))
   have hx9:=bB (((((dh.trans dF).trans eg).trans kT).trans qm).trans Jn) _ _ hx
   have hy9:=bB (((eg.trans kT).trans qm).trans Jn) _ _ hy
   have hz9:=bB (qm.trans Jn) _ _ hz
   refine ⟨mL 17 [x,y,z],_,lva,ax,rfl,aL Jn (fun _ _ h=>h) zj,rfl,_,rfl,Ep ⟨by simp,_,gi,?_⟩⟩
   exact cM (cA hx9) (cM (cA hy9) (cA hz9))
  rw [if_neg (by simp [hs])] at ax
  clear hs
  simp +contextual only [go_sem,aE,sevalprocAttr]
  refine ir [(b3,_),(b2,_)] XF eR (fun hs lv4 jY=> ?_) (fun hs lv4 jY=> ?_)
  ·rw [if_pos hs] at ax
   simp +contextual only [go_sem,aE,sevalprocAttr]
   intro b4 dI dY
   refine dN [(b3,_),(b2,_)] hT ax jY ?_
   intro M2 lv5 bg aZ ax gL
   simp +contextual only [go_sem,sevalprocAttr]
   refine bZ [(b3,_),(b2,_)] hT ax cD (fun h=>ib M2 _ lv5 T3 (ly.ext bg) gL h) ?_
   rintro v M3 x t2 lv6 bM bj ax lY ⟨cs,rfl,hx⟩
   obtain ⟨s,rfl,h1,_⟩:=bR hx
   simp only [nn,aJ,aK] at bj
   simp +contextual only [go_sem,sevalprocAttr,h1]
   intro b7 T7 iN iV mX tj b6 oZ fq
   refine dN [(b7,_),(b3,_),(b2,_)] (hT.trans mX) ax lY ?_
   intro M4 lv7 dh cE ax oE
   simp +contextual only [go_sem,sevalprocAttr]
   refine bZ [(b7,_),(b3,_),(b2,_)] (hT.trans mX) ax cD (fun h=>ib M4 _ lv7 T7 (((ly.ext bg).ext bM).ext dh) oE h) ?_
   rintro v M5 y t3 lv8 dF bE ax rJ ⟨cs,rfl,hy⟩
   obtain ⟨s',rfl,qC,_⟩:=bR hy
   simp only [nn,aJ,aK] at bE
   simp +contextual only [go_sem,sevalprocAttr,qC]
   intro b8 T8 mG eA qI vH b9 lu eN
   refine dN [(b8,_),(b7,_),(b3,_),(b2,_)] ((hT.trans mX).trans qI) ax rJ ?_
   intro M6 lv9 eg bN ax Ms
   simp only [nn,aJ,aK] at bN
   simp +contextual only [go_sem,sevalprocAttr,bN,eA]
   refine aD (Hg 18 (bB ((dh.trans dF).trans eg) _ _ hx) (bB eg _ _ hy) T8) ?_
   rintro v M7 kT iO ⟨cs,rfl,TX⟩
   obtain ⟨s'',rfl,WZ,_⟩:=bR TX
   simp only [aJ,aK] at iO
   simp +contextual only [go_sem,sevalprocAttr,iO,cL,iV,eA,WZ]
   refine ak (ak (ak (ak (aM ((hT.trans mX).trans qI) rfl rfl ?_))))
   exact ⟨_,_,lv9,ax,rfl,aL kT (fun _ _ h=>h) Ms,rfl,_,rfl,TX⟩
  rw [if_neg (by simp [hs])] at ax
  clear hs
  simp +contextual only [go_sem,aE,sevalprocAttr]
  refine ir [(b3,_),(b2,_)] Sd jY (fun hs lv5 gL=> ?_) (fun hs lv5 gL=> ?_)
  ·rw [if_pos hs] at ax
   simp +contextual only [go_sem,aE,sevalprocAttr]
   intro b4 dI dY
   refine dN [(b3,_),(b2,_)] hT ax gL ?_
   intro M2 lv6 bg aZ ax lY
   simp +contextual only [go_sem,sevalprocAttr]
   refine ir [(b3,_),(b2,_)] xz lY (fun lZ lv7 oE=> ?_) (fun lZ lv7 oE=> ?_)
   ·rw [if_pos lZ] at ax
    simp +contextual only [go_sem,aE,sevalprocAttr]
    intro b5 mp gK
    refine dN [(b3,_),(b2,_)] hT ax oE ?_
    intro M3 lv8 bM bj ax rJ
    simp only [nn,aJ,aK] at bj
    simp +contextual only [go_sem,sevalprocAttr,bj,cL]
    refine ak (ak (aM hT rfl rfl ?_))
    exact ⟨_,_,lv8,ax,rfl,rJ,rfl,_,rfl,Ep ⟨Nat.zero_le _,[],.inl ⟨_,_,rfl,rfl,fun _=>rfl⟩,rfl⟩⟩
   ·rw [if_neg (by simp [lZ])] at ax
    simp +contextual only [go_sem,aE,sevalprocAttr]
    refine bZ [(b3,_),(b2,_)] hT ax cD (fun h=>ib M2 _ lv7 T3 (ly.ext bg) oE h) ?_
    rintro v M3 x t2 lv8 bM bj ax rJ ⟨cs,rfl,hx⟩
    simp +contextual only [go_sem,sevalprocAttr]
    refine aD (Ar 20 hx T3) ?_
    rintro v M4 dh cE ⟨cs',rfl,hx4⟩
    obtain ⟨s,rfl,h1,_⟩:=bR hx4
    simp only [aJ,aK] at cE
    simp +contextual only [go_sem,sevalprocAttr,h1]
    intro b7 T7 iN iV mX tj b6 oZ fq
    refine dN [(b7,_),(b3,_),(b2,_)] (hT.trans mX) ax (aL dh (fun _ _ h=>h) rJ) ?_
    intro M5 lv9 dF bE ax Ms
    simp only [nn,aJ,aK] at bE
    simp +contextual only [go_sem,sevalprocAttr,bE,cL,iV,h1]
    refine ak (ak (ak (aM (hT.trans mX) rfl rfl ?_)))
    exact ⟨_,_,lv9,ax,rfl,Ms,rfl,_,rfl,bB dF _ _ hx4⟩
  rw [if_neg (by simp [hs])] at ax
  clear hs
  simp +contextual only [go_sem,aE,sevalprocAttr]
  intro b4 dI dY
  refine br 3 105 [(0,.pointer (some ⟨pb,0,none⟩)),(2,.pointer (some ⟨b2,0,none⟩)),(103,.slice (some ⟨b4,0,none⟩) 3 3),(104,.int .i64 3)]
   (fun i e h=>(∃ M' lv' cs3 cs2,bh M1 M'/\h=⟨T3,M',(b3,cs3)::(b2,cs2)::pL pb lv' en op,[]⟩/\cs2.length=7/\M' b4=some ([xF,xi,wI].map st)/\RS M' gn 3 t lv'/\M' b3=none/\M' b2=none/\M' pb=none)/\bD [xF,xi,wI] t=(bD ([xF,xi,wI].drop i) t).map (·+i))
   0 (by omega) (by simp only [aG,go_sem,sevalprocAttr]) (by simp only [go_sem,sevalprocAttr]) (aT fun he hb bi=>az ⟨⟨_,lv5,_,_,he,rfl,rfl,hb,aL he (fun _ _ h=>h) gL,bi.1,bi.2.1,by simpa only [aK] using bi.2.2⟩,by simp⟩) ?_
  rintro i e h hi aI ht ⟨⟨M2,lv6,cs3,cs2,bg,rfl,ji,hw,lY,P8,rW,ZL⟩,kQ⟩
  simp only [aG] at aI
  obtain ⟨q0,q1,q2,q3,q4,q5,q6,rfl⟩:=Cz ji
  have tg:=ly.ext bg
  by_cases aN:i<3
  ·have bA:[xF,xi,wI].drop i=[xF,xi,wI][i]::[xF,xi,wI].drop (i+1):=dq aN
   rw [bA] at kQ
   have hx:aQ M2 ⟨b4,i,none⟩=some (st [xF,xi,wI][i]):=by
    rw [aX hw,List.getElem?_map,gq aN]
    rfl
   have Nr:(i:Int)<3:=by omega
   simp +contextual only [go_sem,aE,sevalprocAttr,aI,ht,Nr,hx]
   refine ir [(b3,_),(b2,_)] [xF,xi,wI][i] lY (fun hs lv7 oE=> ?_) (fun hs lv7 oE=> ?_)
   ·have Jm:bD [xF,xi,wI] t=some i:=by rw [kQ];simp [bD,hs]
    rw [Jm] at ax
    simp only at ax
    simp +contextual only [go_sem,aE,sevalprocAttr,aI]
    intro b5 mp gK
    refine dN [(b3,_),(b2,_)] hT ax oE ?_
    intro M3 lv8 bM bj ax rJ
    simp +contextual only [go_sem,sevalprocAttr,aI]
    refine bZ [(b3,_),(b2,_)] hT ax cD (fun h=>ib M3 _ lv8 T3 (tg.ext bM) rJ h) ?_
    rintro v M4 x t2 lv9 dh cE ax Ms ⟨cs,rfl,hx⟩
    have LG:IntKind.i64.wrap (21+(i:Int))=21+(i:Int):=bJ (by omega) (by omega)
    simp +contextual only [go_sem,sevalprocAttr,LG]
    refine aD (Ar (21+(i:Int)) hx T3) ?_
    rintro v M5 dF bE ⟨cs',rfl,Tt⟩
    obtain ⟨s,rfl,h1,_⟩:=bR Tt
    simp only [aJ,aK] at bE
    simp +contextual only [go_sem,sevalprocAttr,h1,aI]
    intro b7 T7 iN iV mX tj b6 oZ fq
    refine dN [(b7,_),(b3,_),(b2,_)] (hT.trans mX) ax (aL dF (fun _ _ h=>h) Ms) ?_
    intro M6 lva eg bN ax zj
    simp only [nn,aJ,aK] at bN
    simp +contextual only [go_sem,sevalprocAttr,bN,cL,iV,h1,aI]
    refine ak (ak (ak (aM (hT.trans mX) rfl rfl ?_)))
    exact ⟨_,_,lva,ax,rfl,zj,rfl,_,rfl,bB eg _ _ Tt⟩
   ·simp +contextual only [go_sem,aE,sevalprocAttr,ht]
    refine cI aN ?_ ?_ ⟨⟨M2,lv7,cs3,_,bg,rfl,rfl,hw,oE,P8,rW,ZL⟩,?_⟩
    ·simp only [aG,aI,go_sem,sevalprocAttr]
    ·simp only [go_sem,sevalprocAttr,aB i (by omega)]
    ·rw [kQ]
     simp only [bD,hs,Bool.false_eq_true,if_false,Option.map_map]
     congr 1
     funext n
     simp only [Function.comp];omega
  ·have:i=3:=by omega
   subst this
   have Jm:bD [xF,xi,wI] t=none:=by rw [kQ];rfl
   rw [Jm] at ax
   simp only at ax
   have h33:¬ ((3:Nat):Int)<3:=by omega
   simp +contextual only [go_sem,aE,sevalprocAttr,aI,ht]
   refine bZ [(b3,_),(b2,_)] hT ax cD (fun _=>gO tg lY T3) ?_
   rintro v M3 n t2 lv7 bM bj ax oE rfl
   simp +contextual only [go_sem,sevalprocAttr,aI]
   refine ir [(b3,_),(b2,_)] adI oE (fun hs lv8 rJ=> ?_) (fun hs lv8 rJ=> ?_)
   ·rw [if_pos hs] at ax
    simp +contextual only [go_sem,aE,sevalprocAttr,aI]
    refine bZ [(b3,_),(b2,_)] hT ax cD (fun _=>gO (tg.ext bM) rJ T3) ?_
    rintro v M4 m t3 lv9 dh cE ax Ms rfl
    simp only [nn,aJ,aK] at cE
    simp +contextual only [go_sem,sevalprocAttr,cE,aI,cL]
    refine ak (ak (aM hT rfl rfl ?_))
    exact ⟨_,_,lv9,ax,rfl,Ms,rfl,_,rfl,rL.2 ⟨_,rfl,Nat.zero_le _,[],.inl ⟨_,_,rfl,rfl,fun _=>rfl⟩,rfl⟩⟩
   ·rw [if_neg (by simp [hs])] at ax
    simp only [nn,aJ,aK] at bj
    simp +contextual only [go_sem,aE,sevalprocAttr,bj,aI,cL]
    refine ak (ak (aM hT rfl rfl ?_))
    exact ⟨_,_,lv8,ax,rfl,rJ,rfl,_,rfl,rL.2 ⟨_,rfl,Nat.zero_le _,[],.inl ⟨_,_,rfl,rfl,fun _=>rfl⟩,rfl⟩⟩
def gM (n:Nat):Lvl:=p6.getD n ⟨[],0,false⟩
def jZ (g:List Tk ->Rs X)(l:Lvl):Nat ->X ->List Tk ->Rs X
 | 0,_,_=> .out
 | k+1,x,t=>match bD l.signs t with
  | none=> .ok x t
  | some j=>(g t.tail).bind fun y t'=>if l.once=true then .ok (mL (l.kind+j) [x,y]) t' else jZ g l k (mL (l.kind+j) [x,y]) t'
def isM (en:Int)(x:X)(t:List Tk):Rs X:=(bU en [qR] (if bH yp t.tail=true then t.tail.tail else t.tail)).bind fun _ t'=> .ok (if bH yp t.tail=true then mL 3 [mL 16 [x]] else mL 16 [x]) t'
def eO (en:Int):Nat ->Nat ->Int ->List Tk ->Rs X
 | 0,_,_,_=> .out
 | f+1,n,op,t=>
  if n=7 then mF en (fun t=>if op+1>100 then .err 4 (oP en t) else eO en f 0 (op+1) t) t
  else if n=2 then
   if bH yp t=true then (if op+1>100 then .err 4 (oP en t.tail) else (eO en f 2 (op+1) t.tail).bind fun x t=> .ok (mL 3 [x]) t)
   else eO en f 3 op t
  else (eO en f (n+1) op t).bind fun x t=>
   if n=3/\bH wIs t=true then isM en x t
   else jZ (eO en f (n+1) op) (gM n) (t.length+1) x t
def vq (en:Int)(f:Nat)(op:Int)(t:List Tk):Rs X:=if op+1>100 then .err 4 (oP en t) else eO en f 0 (op+1) t
def abQ (en:Int)(pb:Nat)(f:Nat):Prop:=∀ (n:Nat) (op:Int) (M:aS) (t:List Tk) (lv:Value) (T:Tm),n<=7 ->0<=op ->op<=100 ->eX M ->RS M gn 3 t lv ->eO en f n op t≠ .out ->
 cw Tryz.prog 153 [.pointer (some ⟨pb,0,none⟩),.int .i64 (n:Int)] T M (pL pb lv en op) [] (fu pb en op G1 (eO en f n op t)) (fW pb en (eO en f n op t))
theorem qx {M:aS}{N:Tm}{R:RR}{pb b:Nat}{lv:Value}{en op:Int}(L1:LL)(hb:M b=some [.pointer (some ⟨pb,0,none⟩)]){args:Array Value}(ha:args.toList=[]){k:Sh ->Prop}(hk:k ⟨N,M,L1++pL pb lv en (IntKind.i64.wrap (op - 1)),R⟩):
 Bm Tryz.prog [{target:=.fn (.func 189) ⟨[.pointer (some ⟨b,0,none⟩)]⟩,args:=args}] ⟨N,M,L1++pL pb lv en op,R⟩ k:=by
 have hd:dFn {target:=.fn (.func 189) ⟨[.pointer (some ⟨b,0,none⟩)]⟩,args:=args}=some (189,[.pointer (some ⟨b,0,none⟩)]):=by simp [dFn,ha]
 unfold Bm
 rw [hd]
 refine Ri L1 (NR hb N) fun v M' L' hM Dp bi h=> ?_
 obtain ⟨rfl,rfl⟩:=h
 exact hk
theorem AX {op:Int}(h0:0<=op)(h1:op<=1000):IntKind.i64.wrap (op+1 - 1)=op:=by
 rw [show op+1 - 1=op from by omega]
 exact bJ (by omega) (by omega)
theorem pY (e a:Int):UW (rd e a)=true:=rfl
theorem Kv {en:Int}{pb f:Nat}{op:Int}(hb:abQ en pb f)(h0:0<=op)(h1:op<=100):Xr en pb (vq en f op) op:=by
 intro M aW lv T hg hl cD
 refine D4 ahj rfl rfl ?_
 intro bi _
 simp only [aK] at bi
 simp +contextual only [go_sem,sevalprocAttr]
 intro b2 T2 ey gx dV fG
 refine dz [(b2,_)] (Kf hl h0 (by omega) T2) ?_ ?_
 ·rintro v M1 L1 aV kY bG ⟨ef,rfl,b,rfl,z8⟩
  have ib:vq en f op aW=eO en f 0 (op+1) aW:=by unfold vq;rw [if_neg (by omega)]
  rw [ib] at cD ⊢
  have gI:=aL aV (fun _ _ h=>h) hl
  simp only [nn,aJ,aK] at bG
  simp +contextual only [go_sem,sevalprocAttr]
  refine dz [(b2,_)] (hb 0 (op+1) M1 aW lv T2 (by omega) (by omega) ef (hg.ext aV) gI cD) ?_ ?_
  ·rintro v M2 L2 bg iJ aZ ⟨x,r,lv2,ax,rfl,eD, -,cs,rfl,hx⟩
   obtain ⟨s,rfl,qC,_⟩:=bR hx
   simp only [nn,aJ,aK] at aZ
   simp +contextual only [go_sem,sevalprocAttr,qC]
   refine qx [(b2,_)] (bg _ _ z8) rfl ?_
   rw [AX h0 (by omega)]
   simp +contextual only [go_sem,sevalprocAttr,aZ]
   refine ak (aM dV rfl rfl ?_)
   exact ⟨x,r,lv2,ax,rfl,eD,rfl,_,rfl,hx⟩
  ·rintro ch M2 L2 bg iJ aZ ⟨c,a,lv2,op2,ax,rfl,rfl, -⟩
   rw [vV]
   refine ⟨pY _ _,?_⟩
   refine qx [(b2,_)] (bg _ _ z8) rfl ?_
   refine ak (aM dV rfl rfl ?_)
   exact ⟨c,a,lv2,_,ax,rfl,rfl,rfl⟩
 ·rintro ch M1 L1 aV kY bG ⟨ef,rfl,op',rfl⟩
  have ib:vq en f op aW=.err 4 (oP en aW):=by unfold vq;rw [if_pos (by omega)]
  rw [ib]
  refine ⟨pY _ _,?_⟩
  refine ak (aM dV rfl rfl ?_)
  exact ⟨4,_,lv,op',rfl,rfl,rfl,rfl⟩
theorem WJ {M:aS}{b o:Nat}{l:Lvl}{cs:List Value}(h:UC M l cs)(ha:At M b o cs):∃ s,aQ M ⟨b,o,none⟩=some s/\aQ M ⟨b,o+1,none⟩=some (.int .i64 l.kind)/\aQ M ⟨b,o+2,none⟩=some (.bool l.once)/\
 RS M pX 1 l.signs s/\(l.signs=[] ->s=.slice none 0 0)/\(l.signs≠[] ->∃ b n,s=.slice (some ⟨b,0,none⟩) n n):=by
 obtain ⟨s,h1,h2,h3,rfl⟩:=h
 exact ⟨s,ha.1,ha.2.1,ha.2.2.1,h1,h2,h3⟩
theorem Wx {n:Nat}(h:n<7):p6[n]?=some (gM n):=by
 have:n<p6.length:=h
 rw [gq this]
 simp [gM,List.getD_eq_getElem?_getD,gq this]
section
variable {α β:Type} {T N:Tm} {M:aS} {R:RR} {dr:List (Nat×Sched)} {ts:List ResultVar} {post:ez} {pb:Nat} {lv0 lv:Value} {en op0 op:Int} {d:Option Nat} {s:List Vc.Item} {e:dj} {aW:List Tk} {L1:LL}
theorem G2 {res:Rs α}{c a:Int}(L1:LL)(hT:aH T N)(h:res=.err c a):(Oh Tryz.prog T dr ts (keys (pL pb lv0 en op0)) 0 post (fW pb en res)).pan (rd c a) e [] ⟨N,M,L1++pL pb lv en op,R⟩:=by
 rw [vV]
 exact ⟨pY c a,gp L1 (cz (aM hT rfl rfl ⟨c,a,lv,op,h,rfl,rfl,rfl⟩))⟩
theorem r8 {f:FuncId}{args:List Value}{enc:α ->Value ->aS ->Prop}{res:Rs β}{g:Rs α}{Fk:α ->List Tk ->Rs β}(L1:LL)(hT:aH T N)(hp:res=g.bind Fk)(cD:res≠ .out)
 (hc:g≠ .out ->cw Tryz.prog f args N M (pL pb lv en op) [] (fu pb en op enc g) (fW pb en g))
 (k:∀ v M' a r lv',bh M M' ->aJ M' (L1++pL pb lv' en op) ->res=Fk a r ->RS M' gn 3 r lv' ->enc a v M' ->
  cj Tryz.prog (Oh Tryz.prog T dr ts (keys (pL pb lv0 en op0)) 0 post (fW pb en res)) s (cB e d v) [] ⟨N,M',L1++pL pb lv' en op,R⟩ ⟨⟩):
 dk Tryz.prog (Oh Tryz.prog T dr ts (keys (pL pb lv0 en op0)) 0 post (fW pb en res)) f args d s e [] ⟨N,M,L1++pL pb lv en op,R⟩ ⟨⟩:=by
 have hg:g≠ .out:=fun h=>cD (by rw [hp,h];rfl)
 refine ru L1 (hc hg) (fun v M' a r lv' hM bi ax hr he=>k v M' a r lv' hM bi (by rw [hp,ax];rfl) hr he) ?_
 intro c a M' lv' op' hM ax
 exact G2 L1 hT (by rw [hp,ax];rfl)
theorem KX {res:Rs β}{Fk:Unit ->List Tk ->Rs β}(L1:LL){x:Bs}{b:Nat}(hT:aH T N)(hp:res=(bU en [x] aW).bind Fk)(hl:RS M gn 3 aW lv)
 (k:∀ M' lv',bh M M' ->aJ M' (L1++pL pb lv' en op) ->res=Fk () aW.tail ->RS M' gn 3 aW.tail lv' ->
  cj Tryz.prog (Oh Tryz.prog T dr ts (keys (pL pb lv0 en op0)) 0 post (fW pb en res)) s (cB e d (.tuple #[])) [] ⟨N,M',L1++pL pb lv' en op,R⟩ ⟨⟩):
 dk Tryz.prog (Oh Tryz.prog T dr ts (keys (pL pb lv0 en op0)) 0 post (fW pb en res)) 51 [.pointer (some ⟨pb,0,none⟩),.slice (some ⟨b,0,none⟩) 1 1] d s e [] ⟨N,M,(b,[.string (bs x)])::(L1++pL pb lv en op),R⟩ ⟨⟩:=by
 refine di F51.bd fun M1 aV hb bG=> ?_
 have gI:=aL aV (fun _ _ h=>h) hl
 have hs:RS M1 pX 1 [x] (.slice (some ⟨b,0,none⟩) 1 1):=cK (fun _ _=>ep) hb (kq [x]) rfl (by decide)
 refine ru L1 (un gI hs N) ?_ ?_
 ·rintro v M' a r lv' hM bi ax hr rfl
  have hr2:r=aW.tail:=by
   simp only [bU] at ax
   split at ax
   ·injection ax with _ h;exact h.symm
   ·cases ax
  subst hr2
  exact k M' lv' (aV.trans hM) bi (by rw [hp,ax];rfl) hr
 ·intro c a M' lv' op' hM ax
  exact G2 L1 hT (by rw [hp,ax];rfl)
end
theorem Rs.bind_ok {α:Type}(g:Rs α):g=g.bind fun a t=> .ok a t:=by cases g<;>rfl
theorem wO {l:List Bs}{t:List Tk}:∀ {j:Nat},bD l t=some j ->j<l.length:=by
 induction l with
 | nil=>intro j h;cases h
 | cons s l ih=>
  intro j h
  simp only [bD] at h
  split at h
  ·injection h with h;subst h;simp
  ·obtain ⟨k,hk,rfl⟩:=Option.map_eq_some_iff.1 h
   have:=ih hk
   simp only [List.length_cons];omega
theorem LZ:∀ n,n<7 ->0<=(gM n).kind/\(gM n).kind<=15/\(gM n).signs.length<=6/\((gM n).once=decide (n=3))/\(n≠2 ->(gM n).signs≠[]):=by decide
theorem Mm {en:Int}{pb:Nat}:∀ f,abQ en pb f:=by
 intro f
 induction f with
 | zero=>intro n op M t lv T hn h0 h1 hg hl cD;exact (cD rfl).elim
 | succ f ih=>
  intro n op M t lv T hn h0 h1 hg hl cD
  refine D4 ajq rfl rfl ?_
  intro bi _
  simp only [aK] at bi
  simp +contextual only [go_sem,sevalprocAttr]
  intro b4 T4 dI dY fj gH
  refine aD (Ni T4) ?_
  rintro v M1 aV bG aI
  have gI:=aL aV (fun _ _ h=>h) hl
  have ly:=hg.ext aV
  simp only [aJ,aK] at bG
  obtain ⟨_,la,lc,rfl,hlc,_,fU⟩:=aF (by decide) (fun _ _ h=>En h) aI
  have acb:p6.length=7:=rfl
  simp +contextual only [go_sem,aE,sevalprocAttr,acb]
  by_cases hn7:n=7
  ·subst hn7
   simp +contextual only [go_sem,sevalprocAttr]
   have ug:eO en (f+1) 7 op t=mF en (vq en f op) t:=rfl
   refine r8 [(b4,_)] fj (ug.trans (Rs.bind_ok _)) cD (fun h=>Pt ly gI (Kv ih h0 h1) h T4) ?_
   rintro v M2 x r lv2 bg aZ ax eD ⟨cs,rfl,hx⟩
   obtain ⟨s,rfl,qC,_⟩:=bR hx
   simp only [nn,aJ,aK] at aZ
   simp +contextual only [go_sem,sevalprocAttr,aZ,qC]
   refine ak (aM fj rfl rfl ?_)
   exact ⟨x,r,lv2,ax,rfl,eD,rfl,_,rfl,hx⟩
  have adT:n<7:=by omega
  obtain ⟨lb,lo,cs,rfl,cG,Lh⟩:=fU n _ (Wx adT)
  obtain ⟨sg,g0,g1,g2,hsg,tf,aeD⟩:=WJ Lh cG
  have af5:¬ (n:Int)=7:=by omega
  have kQ:(n:Int)<7:=by omega
  by_cases rW:n=2
  ·subst rW
   have tF:=tf rfl
   subst tF
   simp +contextual only [go_sem,aE,sevalprocAttr,g0]
   have ug:eO en (f+1) 2 op t=if bH yp t=true then (if op+1>100 then .err 4 (oP en t.tail) else (eO en f 2 (op+1) t.tail).bind fun x t=> .ok (mL 3 [x]) t) else eO en f 3 op t:=rfl
   refine ir [(b4,_)] yp gI (fun hs lv2 eD=> ?_) (fun hs lv2 eD=> ?_)
   ·rw [if_pos hs] at ug
    simp +contextual only [go_sem,aE,sevalprocAttr]
    refine dz [(b4,_)] (Kf eD h0 (by omega) T4) ?_ ?_
    ·rintro v M2 L2 bg iJ aZ ⟨ef,rfl,b,rfl,z8⟩
     rw [if_neg (by omega)] at ug
     have eR:=aL bg (fun _ _ h=>h) eD
     simp only [nn,aJ,aK] at aZ
     simp +contextual only [go_sem,sevalprocAttr]
     have Lf:eO en f 2 (op+1) t.tail≠ .out:=fun h=>cD (by rw [ug,h];rfl)
     refine dz [(b4,_)] (ih 2 (op+1) M2 t.tail lv2 T4 (by omega) (by omega) ef (ly.ext bg) eR Lf) ?_ ?_
     ·rintro v M3 L3 bM Oi bj ⟨x,r,lv3,ax,rfl,eR, -,cs3,rfl,hx⟩
      simp +contextual only [go_sem,sevalprocAttr]
      refine aD (Ar 3 hx T4) ?_
      rintro v M5 dF bE ⟨cs',rfl,Tt⟩
      obtain ⟨s,rfl,qC,_⟩:=bR Tt
      simp only [aJ,aK] at bE
      simp +contextual only [go_sem,sevalprocAttr,qC]
      refine qx [(b4,_)] ((bM.trans dF) _ _ z8) rfl ?_
      rw [AX h0 (by omega)]
      simp +contextual only [go_sem,sevalprocAttr,bE]
      refine ak (aM fj rfl rfl ?_)
      exact ⟨_,r,lv3,by rw [ug,ax];rfl,rfl,aL dF (fun _ _ h=>h) eR,rfl,_,rfl,Tt⟩
     ·rintro ch M3 L3 bM Oi bj ⟨c,a,lv3,op3,ax,rfl,rfl, -⟩
      rw [vV]
      refine ⟨pY _ _,?_⟩
      refine qx [(b4,_)] (bM _ _ z8) rfl ?_
      refine ak (aM fj rfl rfl ?_)
      exact ⟨c,a,lv3,_,by rw [ug,ax];rfl,rfl,rfl,rfl⟩
    ·rintro ch M2 L2 bg iJ aZ ⟨ef,rfl,op',rfl⟩
     rw [if_pos (by omega)] at ug
     exact G2 [(b4,_)] fj ug
   ·rw [if_neg (by simp [hs])] at ug
    simp +contextual only [go_sem,aE,sevalprocAttr]
    refine r8 [(b4,_)] fj (ug.trans (Rs.bind_ok _)) cD (fun h=>ih 3 op M1 t lv2 T4 (by omega) h0 h1 ly eD h) ?_
    rintro v M2 x r lv2 bg aZ ax eD ⟨cs,rfl,hx⟩
    obtain ⟨s,rfl,qC,_⟩:=bR hx
    simp only [nn,aJ,aK] at aZ
    simp +contextual only [go_sem,sevalprocAttr,aZ,qC]
    refine ak (aM fj rfl rfl ?_)
    exact ⟨x,r,lv2,ax,rfl,eD,rfl,_,rfl,hx⟩
  ·obtain ⟨kd,amT,gi,aep,aiv⟩:=LZ n adT
   obtain ⟨sb,sn,rfl⟩:=aeD (aiv rW)
   have ug:eO en (f+1) n op t=(eO en f (n+1) op t).bind fun x t=>if n=3/\bH wIs t=true then isM en x t else jZ (eO en f (n+1) op) (gM n) (t.length+1) x t:=by
    conv=>lhs;unfold eO
    rw [if_neg hn7,if_neg rW]
   simp +contextual only [go_sem,aE,sevalprocAttr,g0,af5,kQ,aB n (by omega)]
   refine r8 [(b4,_)] fj ug cD (fun h=>ih (n+1) op M1 t lv T4 (by omega) h0 h1 ly gI h) ?_
   rintro v M2 x r lv2 bg aZ ax eD ⟨cs2,rfl,hx⟩
   obtain ⟨s,rfl,qC,_⟩:=bR hx
   have g2':=ay bg g2
   simp only [nn,aJ,aK] at aZ
   simp +contextual only [go_sem,aE,sevalprocAttr,qC,kQ,g2']
   intro b6 T6 oZ fq sK BX
   have zD:=fj.trans sK
   rw [aep]
   by_cases P8:n=3
   ·subst P8
    simp +contextual only [go_sem,sevalprocAttr]
    refine ir [(b6,_),(b4,_)] wIs eD (fun hs lv3 eR=> ?_) (fun hs lv3 eR=> ?_)
    ·rw [if_pos ⟨rfl,hs⟩] at ax
     unfold isM at ax
     simp +contextual only [go_sem,aE,sevalprocAttr]
     refine ir [(b6,_),(b4,_)] yp eR (fun lZ lv4 jY=> ?_) (fun lZ lv4 jY=> ?_)
     ·rw [if_pos lZ] at ax
      simp +contextual only [go_sem,sevalprocAttr]
      intro b7 iN iV
      refine KX [(b6,_),(b4,_)] zD ax jY ?_
      intro M3 lv5 bM bj ax gL
      simp only [nn,aJ,aK] at bj
      simp +contextual only [go_sem,sevalprocAttr,bj]
      refine aD (Ar 16 (bB bM _ _ hx) T6) ?_
      rintro v M5 dF bE ⟨cs5,rfl,Tt⟩
      obtain ⟨s5,rfl,wo,_⟩:=bR Tt
      simp only [aJ,aK] at bE
      simp +contextual only [go_sem,aE,sevalprocAttr,bE,wo]
      refine aD (Ar 3 Tt T6) ?_
      rintro v M6 eg bN ⟨cs6,rfl,hx6⟩
      obtain ⟨s6,rfl,zk,_⟩:=bR hx6
      simp only [aJ,aK] at bN
      simp +contextual only [go_sem,sevalprocAttr,bN,fq,zk]
      refine ak (ak (aM zD rfl rfl ?_))
      exact ⟨_,_,lv5,ax,rfl,aL (dF.trans eg) (fun _ _ h=>h) gL,rfl,_,rfl,by rw [if_pos lZ];exact hx6⟩
     ·rw [if_neg (by simp [lZ])] at ax
      simp +contextual only [go_sem,sevalprocAttr]
      intro b7 iN iV
      refine KX [(b6,_),(b4,_)] zD ax jY ?_
      intro M3 lv5 bM bj ax gL
      simp only [nn,aJ,aK] at bj
      simp +contextual only [go_sem,sevalprocAttr,bj]
      refine aD (Ar 16 (bB bM _ _ hx) T6) ?_
      rintro v M5 dF bE ⟨cs5,rfl,Tt⟩
      obtain ⟨s5,rfl,wo,_⟩:=bR Tt
      simp only [aJ,aK] at bE
      simp +contextual only [go_sem,aE,sevalprocAttr,bE,fq,wo]
      refine ak (ak (aM zD rfl rfl ?_))
      exact ⟨_,_,lv5,ax,rfl,aL dF (fun _ _ h=>h) gL,rfl,_,rfl,by rw [if_neg (by simp [lZ])];exact Tt⟩
    ·rw [if_neg (by simp [hs])] at ax
     simp +contextual only [go_sem,aE,sevalprocAttr]
     refine fE (fun m e ds h=>ds=[]/\e 0=.pointer (some ⟨pb,0,none⟩)/\e 1=.int .i64 ((3:Nat):Int)/\e 4=.pointer (some ⟨b4,0,none⟩)/\e 5=.slice (some ⟨lb,lo,none⟩) 7 lc/\e 6=.pointer (some ⟨b6,0,none⟩)/\
      ∃ M' x' t' lv' c6 c4,bh M2 M'/\h=⟨T6,M',(b6,c6)::(b4,c4)::pL pb lv' en op,[]⟩/\c4.length=7/\RX M' x' c6/\RS M' gn 3 t' lv'/\M' b6=none/\M' b4=none/\M' pb=none/\eO en (f+1) 3 op t=jZ (eO en f (3+1) op) (gM 3) m x' t')
      ⟨r.length+1,rfl,by simp only [go_sem,sevalprocAttr],by simp only [go_sem,sevalprocAttr],by simp only [go_sem,sevalprocAttr],by simp only [go_sem,sevalprocAttr],by simp only [go_sem,sevalprocAttr],M2,x,r,lv3,_,_,bh.rfl',rfl,rfl,hx,eR,oZ,aZ.1,aZ.2,ax⟩ ?_
     rintro m e ds h ⟨rfl,e0,e1,e4,e5,e6,M3,x',t',lv',c6,c4,bM,rfl,hc4,Ds,gG,n6,n4,np,ax⟩
     obtain ⟨s',rfl,qC,_⟩:=bR Ds
     obtain ⟨q0,q1,q2,q3,q4,q5,q6,rfl⟩:=Cz hc4
     have k0:=ay (bg.trans bM) g0
     have k1:=ay (bg.trans bM) g1
     have k2:=ay (bg.trans bM) g2
     have aaB:=aL (bg.trans bM) (fun _ _ h=>h) hsg
     cases m with
     | zero=>exact (cD (ax.trans rfl)).elim
     | succ m=>
      simp only [jZ] at ax
      simp +contextual only [go_sem,aE,sevalprocAttr,e0,e1,e5,k0]
      refine dz [(b6,_),(b4,_)] (sH gG aaB T6) ?_ (fun _ _ _ _ _ _ h=>h.elim)
      rintro v M4 L4 dh X9 cE ⟨rfl,rfl,lv5,rfl,gL⟩
      cases hj:bD (gM 3).signs t' with
      | none=>
       rw [hj] at ax gL
       simp only [Fo,DQ] at ax gL ⊢
       simp +contextual only [go_sem,aE,sevalprocAttr,e4,e6,n6,n4,fq,qC]
       refine ak (ak (aM zD rfl rfl ?_))
       exact ⟨x',t',lv5,ax,rfl,gL,rfl,_,rfl,Ds⟩
      | some j=>
       rw [hj] at ax gL
       simp only [Fo,DQ] at ax gL ⊢
       have nB:=wO hj
       have C3:¬ (j:Int)<0:=by omega
       have hwk:IntKind.i64.wrap ((gM 3).kind+(j:Int))=(gM 3).kind+(j:Int):=bJ (by omega) (by omega)
       simp +contextual only [go_sem,aE,sevalprocAttr,C3]
       refine eL ⟨T,M4,[(b6,_)],[]⟩ (du [] bh.rfl' n6 trivial) ?_
       simp +contextual only [go_sem,sevalprocAttr,e0,e1,e5,e6,k1,n6,hwk]
       refine r8 [(b6,_),(b4,_)] zD ax cD (fun h=>ih (3+1) op M4 t'.tail lv5 T6 (by omega) h0 h1 ((ly.ext bg).ext bM) gL h) ?_
       rintro v M5 y r5 lv6 dF bE ax lY ⟨cs5,rfl,hy⟩
       simp only [nn,aJ,aK] at bE
       simp +contextual only [go_sem,sevalprocAttr]
       refine ⟨du [] dF bE.1 trivial,?_⟩
       refine aD (Hg ((gM 3).kind+(j:Int)) (bB dF _ _ Ds) hy T6) ?_
       rintro v M6 eg bN ⟨cs6,rfl,TX⟩
       obtain ⟨s6,rfl,zk,_⟩:=bR TX
       simp only [aJ,aK] at bN
       have k2':=ay (dF.trans eg) k2
       simp +contextual only [go_sem,sevalprocAttr]
       refine ⟨du [] (dF.trans eg) bN.1 trivial,?_⟩
       simp +contextual only [go_sem,aE,sevalprocAttr,e1,e4,e5,e6,bN,fq,zk,k2']
       by_cases ho:(gM 3).once=true
       ·rw [if_pos ho] at ax
        simp +contextual only [go_sem,sevalprocAttr,ho]
        refine ak (ak (aM zD rfl rfl ?_))
        exact ⟨_,r5,lv6,ax,rfl,aL eg (fun _ _ h=>h) lY,rfl,_,rfl,TX⟩
       ·rw [if_neg ho] at ax
        simp +contextual only [go_sem,sevalprocAttr,ho]
        rw [dB]
        refine az ⟨m,by omega,rfl,?_,?_,?_,?_,?_,M6,_,r5,lv6,_,_,(bM.trans dF).trans eg,rfl,rfl,TX,aL eg (fun _ _ h=>h) lY,bN.1,bN.2.1,bN.2.2,ax⟩
        all_goals simp only [e0,e1,e4,e5,e6,go_sem,sevalprocAttr]
   ·rw [if_neg (fun h=>P8 h.1)] at ax
    simp +contextual only [go_sem,sevalprocAttr,P8]
    refine fE (fun m e ds h=>ds=[]/\e 0=.pointer (some ⟨pb,0,none⟩)/\e 1=.int .i64 (n:Int)/\e 4=.pointer (some ⟨b4,0,none⟩)/\e 5=.slice (some ⟨lb,lo,none⟩) 7 lc/\e 6=.pointer (some ⟨b6,0,none⟩)/\
     ∃ M' x' t' lv' c6 c4,bh M2 M'/\h=⟨T6,M',(b6,c6)::(b4,c4)::pL pb lv' en op,[]⟩/\c4.length=7/\RX M' x' c6/\RS M' gn 3 t' lv'/\M' b6=none/\M' b4=none/\M' pb=none/\eO en (f+1) n op t=jZ (eO en f (n+1) op) (gM n) m x' t')
     ⟨r.length+1,rfl,by simp only [go_sem,sevalprocAttr],by simp only [go_sem,sevalprocAttr],by simp only [go_sem,sevalprocAttr],by simp only [go_sem,sevalprocAttr],by simp only [go_sem,sevalprocAttr],M2,x,r,lv2,_,_,bh.rfl',rfl,rfl,hx,eD,oZ,aZ.1,aZ.2,ax⟩ ?_
    rintro m e ds h ⟨rfl,e0,e1,e4,e5,e6,M3,x',t',lv',c6,c4,bM,rfl,hc4,Ds,gG,n6,n4,np,ax⟩
    obtain ⟨s',rfl,qC,_⟩:=bR Ds
    obtain ⟨q0,q1,q2,q3,q4,q5,q6,rfl⟩:=Cz hc4
    have k0:=ay (bg.trans bM) g0
    have k1:=ay (bg.trans bM) g1
    have k2:=ay (bg.trans bM) g2
    have aaB:=aL (bg.trans bM) (fun _ _ h=>h) hsg
    cases m with
    | zero=>exact (cD (ax.trans rfl)).elim
    | succ m=>
     simp only [jZ] at ax
     simp +contextual only [go_sem,aE,sevalprocAttr,e0,e1,e5,kQ,k0]
     refine dz [(b6,_),(b4,_)] (sH gG aaB T6) ?_ (fun _ _ _ _ _ _ h=>h.elim)
     rintro v M4 L4 dh X9 cE ⟨rfl,rfl,lv5,rfl,gL⟩
     cases hj:bD (gM n).signs t' with
     | none=>
      rw [hj] at ax gL
      simp only [Fo,DQ] at ax gL ⊢
      simp +contextual only [go_sem,aE,sevalprocAttr,e4,e6,n6,n4,fq,qC]
      refine ak (ak (aM zD rfl rfl ?_))
      exact ⟨x',t',lv5,ax,rfl,gL,rfl,_,rfl,Ds⟩
     | some j=>
      rw [hj] at ax gL
      simp only [Fo,DQ] at ax gL ⊢
      have nB:=wO hj
      have C3:¬ (j:Int)<0:=by omega
      have hwk:IntKind.i64.wrap ((gM n).kind+(j:Int))=(gM n).kind+(j:Int):=bJ (by omega) (by omega)
      simp +contextual only [go_sem,aE,sevalprocAttr,C3]
      refine eL ⟨T,M4,[(b6,_)],[]⟩ (du [] bh.rfl' n6 trivial) ?_
      simp +contextual only [go_sem,sevalprocAttr,e0,e1,e5,e6,kQ,k1,n6,hwk,aB n (by omega)]
      refine r8 [(b6,_),(b4,_)] zD ax cD (fun h=>ih (n+1) op M4 t'.tail lv5 T6 (by omega) h0 h1 ((ly.ext bg).ext bM) gL h) ?_
      rintro v M5 y r5 lv6 dF bE ax lY ⟨cs5,rfl,hy⟩
      simp only [nn,aJ,aK] at bE
      simp +contextual only [go_sem,sevalprocAttr]
      refine ⟨du [] dF bE.1 trivial,?_⟩
      refine aD (Hg ((gM n).kind+(j:Int)) (bB dF _ _ Ds) hy T6) ?_
      rintro v M6 eg bN ⟨cs6,rfl,TX⟩
      obtain ⟨s6,rfl,zk,_⟩:=bR TX
      simp only [aJ,aK] at bN
      have k2':=ay (dF.trans eg) k2
      simp +contextual only [go_sem,sevalprocAttr]
      refine ⟨du [] (dF.trans eg) bN.1 trivial,?_⟩
      simp +contextual only [go_sem,aE,sevalprocAttr,e1,e4,e5,e6,kQ,bN,fq,zk,k2']
      by_cases ho:(gM n).once=true
      ·rw [if_pos ho] at ax
       simp +contextual only [go_sem,sevalprocAttr,ho]
       refine ak (ak (aM zD rfl rfl ?_))
       exact ⟨_,r5,lv6,ax,rfl,aL eg (fun _ _ h=>h) lY,rfl,_,rfl,TX⟩
      ·rw [if_neg ho] at ax
       simp +contextual only [go_sem,sevalprocAttr,ho]
       rw [dB]
       refine az ⟨m,by omega,rfl,?_,?_,?_,?_,?_,M6,_,r5,lv6,_,_,(bM.trans dF).trans eg,rfl,rfl,TX,aL eg (fun _ _ h=>h) lY,bN.1,bN.2.1,bN.2.2,ax⟩
       all_goals simp only [e0,e1,e4,e5,e6,go_sem,sevalprocAttr]
abbrev wAs:Bs:=[97,115]
abbrev wOn:Bs:=[111,110]
abbrev Bd:Bs:=[106,111,105,110]
abbrev abX:Bs:=[115,101,109,105]
abbrev acm:Bs:=[97,110,116,105]
abbrev aeN:Bs:=[108,101,102,116]
abbrev ZI:Bs:=[117,110,105,111,110]
abbrev Ww:Bs:=[101,120,99,101,112,116]
abbrev aaH:Bs:=[97,108,108]
abbrev acJ:Bs:=[98,111,111,108]
abbrev ahE:Bs:=[105,110,116]
abbrev aeq:Bs:=[116,101,120,116]
def re:X:=mL 0 []
theorem ja {M:aS}:RX M re [.int .i64 0,.int .i64 0,.int .i64 0,st [],st [],st [],.slice none 0 0]:=Ep ⟨Nat.zero_le _,[],.inl ⟨_,_,rfl,rfl,fun _=>rfl⟩,rfl⟩
def asM (en:Int)(t:List Tk):Rs Bs:=if bH wAs t=true then ij en t.tail else .ok [] t
def AB (en:Int)(ex:List Tk ->Rs X)(t:List Tk):Rs It:=(ex t).bind fun x t=>if bH wAs t=true then (ij en t.tail).bind fun n t=> .ok ⟨x,n⟩ t else .ok ⟨x,[]⟩ t
def XB (i:It)(v:Value)(M:aS):Prop:=∃ cs,v=.agg ⟨cs⟩/\xh M i cs
theorem UT {M:aS}{pb:Nat}{aW:List Tk}{lv:Value}{en op:Int}{ex:List Tk ->Rs X}(hg:eX M)(hl:RS M gn 3 aW lv)(ib:Xr en pb ex op)(cD:AB en ex aW≠ .out)(T:Tm):
 cw Tryz.prog 185 [.pointer (some ⟨pb,0,none⟩)] T M (pL pb lv en op) [] (fu pb en op XB (AB en ex aW)) (fW pb en (AB en ex aW)):=by
 refine aC agt rfl rfl ?_
 intro bi _
 simp only [aK] at bi
 simp +contextual only [go_sem,sevalprocAttr]
 intro b2 T2 ey gx dV fG
 refine bZ [(b2,_)] dV rfl cD (fun h=>ib M _ lv T2 hg hl h) ?_
 rintro v M1 x t lv1 aV bG ax gI ⟨cs,rfl,hx⟩
 obtain ⟨s,rfl,h1,_⟩:=bR hx
 simp only [nn,aJ,aK] at bG
 simp +contextual only [go_sem,sevalprocAttr,h1]
 intro b3 T3 gj cL fB hZ
 have hT:=dV.trans fB
 refine ir [(b3,_),(b2,_)] wAs gI (fun hs lv2 eD=> ?_) (fun hs lv2 eD=> ?_)
 ·rw [if_pos hs] at ax
  simp +contextual only [go_sem,aE,sevalprocAttr]
  refine bZ [(b3,_),(b2,_)] hT ax cD (fun _=>gO (hg.ext aV) eD T3) ?_
  rintro v M2 n t2 lv3 bg aZ ax eR rfl
  simp only [nn,aJ,aK] at aZ
  simp +contextual only [go_sem,sevalprocAttr,aZ,cL,h1]
  refine ak (ak (aM hT rfl rfl ?_))
  exact ⟨_,_,lv3,ax,rfl,eR,rfl,_,rfl,_,bB bg _ _ hx,rfl⟩
 ·rw [if_neg (by simp [hs])] at ax
  simp +contextual only [go_sem,aE,sevalprocAttr,bG,gj,cL,h1]
  refine ak (ak (aM hT rfl rfl ?_))
  exact ⟨_,_,lv2,ax,rfl,eD,rfl,_,rfl,_,hx,rfl⟩
def mi (en:Int)(ex:List Tk ->Rs X)(k:Int)(t:List Tk):Rs So:=(ij en t).bind fun n t=>(asM en t).bind fun a t=>
 if k≠1 then (bU en [wOn] t).bind fun _ t=>(ex t).bind fun x t=> .ok ⟨k,n,a,x⟩ t else .ok ⟨k,n,a,re⟩ t
def adf (i:So)(v:Value)(M:aS):Prop:=∃ cs,v=.agg ⟨cs⟩/\Do M i cs
theorem xS {M:aS}{pb:Nat}{aW:List Tk}{lv:Value}{en op k:Int}{ex:List Tk ->Rs X}(hg:eX M)(hl:RS M gn 3 aW lv)(ib:Xr en pb ex op)(cD:mi en ex k aW≠ .out)(T:Tm):
 cw Tryz.prog 186 [.pointer (some ⟨pb,0,none⟩),.int .i64 k] T M (pL pb lv en op) [] (fu pb en op adf (mi en ex k aW)) (fW pb en (mi en ex k aW)):=by
 refine aC ahn rfl rfl ?_
 intro bi _
 simp only [aK] at bi
 simp +contextual only [go_sem,sevalprocAttr]
 intro b2 T2 ey gx dV fG
 refine bZ [(b2,_)] dV rfl cD (fun _=>gO hg hl T2) ?_
 rintro v M1 n t lv1 aV bG ax gI rfl
 simp only [nn,aJ,aK] at bG
 simp +contextual only [go_sem,sevalprocAttr]
 intro b3 T3 gj cL fB hZ
 have hT:=dV.trans fB
 refine ir [(b3,_),(b2,_)] wAs gI (fun hs lv2 eD=> ?_) (fun hs lv2 eD=> ?_)
 ·unfold asM at ax
  rw [if_pos hs] at ax
  simp +contextual only [go_sem,aE,sevalprocAttr]
  refine bZ [(b3,_),(b2,_)] hT ax cD (fun _=>gO (hg.ext aV) eD T3) ?_
  rintro v M2 a t2 lv3 bg aZ ax eR rfl
  simp only [nn,aJ,aK] at aZ
  by_cases hk:k=1
  ·subst hk
   rw [if_neg (fun h=>h rfl)] at ax
   simp +contextual only [go_sem,aE,sevalprocAttr,aZ,cL]
   refine ak (ak (aM hT rfl rfl ?_))
   exact ⟨_,_,lv3,ax,rfl,eR,rfl,_,rfl,_,ja,rfl⟩
  ·rw [if_pos hk] at ax
   simp +contextual only [go_sem,aE,sevalprocAttr,hk]
   intro b4 dI dY
   refine dN [(b3,_),(b2,_)] hT ax eR ?_
   intro M3 lv4 bM bj ax jY
   simp +contextual only [go_sem,sevalprocAttr]
   refine bZ [(b3,_),(b2,_)] hT ax cD (fun h=>ib M3 _ lv4 T3 (((hg.ext aV).ext bg).ext bM) jY h) ?_
   rintro v M4 x t4 lv5 dh cE ax gL ⟨cs,rfl,hx⟩
   obtain ⟨s,rfl,h1,_⟩:=bR hx
   simp only [nn,aJ,aK] at cE
   simp +contextual only [go_sem,sevalprocAttr,cE,cL,h1]
   refine ak (ak (aM hT rfl rfl ?_))
   exact ⟨_,_,lv5,ax,rfl,gL,rfl,_,rfl,_,hx,rfl⟩
 ·unfold asM at ax
  rw [if_neg (by simp [hs])] at ax
  by_cases hk:k=1
  ·subst hk
   simp only [Rs.bind] at ax
   rw [if_neg (fun h=>h rfl)] at ax
   simp +contextual only [go_sem,aE,sevalprocAttr,bG,gj,cL]
   refine ak (ak (aM hT rfl rfl ?_))
   exact ⟨_,_,lv2,ax,rfl,eD,rfl,_,rfl,_,ja,rfl⟩
  ·have ax:mi en ex k aW=(bU en [wOn] t).bind fun _ t=>(ex t).bind fun x t=> .ok ⟨k,n,[],x⟩ t:=ax.trans (if_pos hk)
   simp +contextual only [go_sem,aE,sevalprocAttr,hk]
   intro b4 dI dY
   refine dN [(b3,_),(b2,_)] hT ax eD ?_
   intro M3 lv4 bM bj ax jY
   simp +contextual only [go_sem,sevalprocAttr]
   refine bZ [(b3,_),(b2,_)] hT ax cD (fun h=>ib M3 _ lv4 T3 ((hg.ext aV).ext bM) jY h) ?_
   rintro v M4 x t4 lv5 dh cE ax gL ⟨cs,rfl,hx⟩
   obtain ⟨s,rfl,h1,_⟩:=bR hx
   simp only [nn,aJ,aK] at cE
   simp +contextual only [go_sem,sevalprocAttr,cE,cL,h1]
   refine ak (ak (aM hT rfl rfl ?_))
   exact ⟨_,_,lv5,ax,rfl,gL,rfl,_,rfl,_,hx,rfl⟩
def lD:List Bs:=[Bd,abX,acm,aeN]
def s7 (en:Int)(t:List Tk):Rs Int:=match bD lD t with
 | none=> .ok 0 t
 | some j=>if j=0 then .ok 2 t.tail else (bU en [Bd] t.tail).bind fun _ t=> .ok (2+j) t
theorem eb {en:Int}{l:List Bs}{t:List Tk}:bU en l t≠ .out:=by
 induction l generalizing t with
 | nil=>simp [bU]
 | cons s l ih=>
  simp only [bU]
  split
  ·exact ih
  ·simp
theorem Ff {en:Int}{t:List Tk}:s7 en t≠ .out:=by
 unfold s7
 split
 ·simp
 ·split
  ·simp
  ·intro h
   cases hn:bU en [Bd] t.tail with
   | out=>exact eb hn
   | ok a r=>rw [hn] at h;cases h
   | err e a=>rw [hn] at h;cases h
theorem K3 {M:aS}{pb:Nat}{aW:List Tk}{lv:Value}{en op:Int}(hl:RS M gn 3 aW lv)(T:Tm):
 cw Tryz.prog 187 [.pointer (some ⟨pb,0,none⟩)] T M (pL pb lv en op) [] (fu pb en op (fun k v _=>v=.int .i64 k) (s7 en aW)) (fW pb en (s7 en aW)):=by
 refine aC acw rfl rfl ?_
 intro bi _
 simp only [aK] at bi
 simp +contextual only [go_sem,aE,sevalprocAttr]
 intro b4 dI dY
 refine br 4 7 [(0,.pointer (some ⟨pb,0,none⟩)),(5,.slice (some ⟨b4,0,none⟩) 4 4),(6,.int .i64 4)]
  (fun i e h=>(∃ M' lv',bh M M'/\h=⟨T,M',pL pb lv' en op,[]⟩/\M' b4=some (lD.map st)/\RS M' gn 3 aW lv'/\M' pb=none)/\bD lD aW=(bD (lD.drop i) aW).map (·+i))
  0 (by omega) (by simp only [aG,go_sem,sevalprocAttr]) (by simp only [go_sem,sevalprocAttr]) (aT fun he hb bi=>az ⟨⟨_,lv,he,rfl,hb,aL he (fun _ _ h=>h) hl,by simpa only [aK] using bi⟩,by simp⟩) ?_
 rintro i e h hi aI ht ⟨⟨M2,lv6,bg,rfl,hw,lY,ZL⟩,kQ⟩
 simp only [aG] at aI
 by_cases aN:i<4
 ·have kD:i<lD.length:=aN
  have bA:lD.drop i=lD[i]::lD.drop (i+1):=dq kD
  rw [bA] at kQ
  have hx:aQ M2 ⟨b4,i,none⟩=some (st lD[i]):=by
   rw [aX hw,List.getElem?_map,gq kD]
   rfl
  have Nr:(i:Int)<4:=by omega
  simp +contextual only [go_sem,aE,sevalprocAttr,aI,ht,Nr,hx]
  refine ir [] lD[i] lY (fun hs lv7 oE=> ?_) (fun hs lv7 oE=> ?_)
  ·have Jm:bD lD aW=some i:=by rw [kQ];simp [bD,hs]
   have LG:IntKind.i64.wrap (2+(i:Int))=2+(i:Int):=bJ (by omega) (by omega)
   have hj:s7 en aW=if i=0 then .ok 2 aW.tail else (bU en [Bd] aW.tail).bind fun _ t=> .ok (2+(i:Int)) t:=by unfold s7;rw [Jm]
   have hjw:(lD[i]=Bd) ↔ i=0:=by
    have:∀ i (h:i<4),(lD[i]'h=Bd) ↔ i=0:=by decide
    exact this i aN
   by_cases h0:i=0
   ·rw [if_pos h0] at hj
    have C3:=hjw.2 h0
    simp +contextual only [go_sem,aE,sevalprocAttr,C3,LG]
    refine aM aH.rfl' rfl rfl ?_
    exact ⟨_,_,lv7,hj,rfl,oE,rfl,by simp [h0]⟩
   ·rw [if_neg h0] at hj
    have C3:¬ lD[i]=[106,111,105,110]:=fun h=>h0 (hjw.1 h)
    simp +contextual only [go_sem,aE,sevalprocAttr,aI,C3]
    intro b5 mp gK
    refine dN [] aH.rfl' hj oE ?_
    intro M3 lv8 bM bj ax rJ
    simp +contextual only [go_sem,sevalprocAttr,LG]
    refine aM aH.rfl' rfl rfl ?_
    exact ⟨_,_,lv8,ax,rfl,rJ,rfl,rfl⟩
  ·simp +contextual only [go_sem,aE,sevalprocAttr,ht]
   refine cI aN ?_ ?_ ⟨⟨M2,lv7,bg,rfl,hw,oE,ZL⟩,?_⟩
   ·simp only [aG,aI,go_sem,sevalprocAttr]
   ·simp only [go_sem,sevalprocAttr,aB i (by omega)]
   ·rw [kQ]
    simp only [bD,hs,Bool.false_eq_true,if_false,Option.map_map]
    congr 1
    funext n
    simp only [Function.comp];omega
 ·have:i=4:=by omega
  subst this
  have Jm:bD lD aW=none:=by rw [kQ];rfl
  have h33:¬ ((4:Nat):Int)<4:=by omega
  simp +contextual only [go_sem,aE,sevalprocAttr,aI,ht]
  refine aM aH.rfl' rfl rfl ?_
  exact ⟨0,aW,lv6,by unfold s7;rw [Jm],rfl,lY,rfl,rfl⟩
def vK:List Bs:=[ZI,Ww]
def CT (t:List Tk):Rs Int:=match bD vK t with
 | none=> .ok 0 t
 | some k=>if bH aaH t.tail=true then .ok (2*k+1) t.tail.tail else .ok (2*k+2) t.tail
theorem J2 {t:List Tk}:CT t≠ .out:=by
 unfold CT
 split
 ·simp
 ·split<;>simp
theorem Qo {M:aS}{pb:Nat}{aW:List Tk}{lv:Value}{en op:Int}(hl:RS M gn 3 aW lv)(T:Tm):
 cw Tryz.prog 146 [.pointer (some ⟨pb,0,none⟩)] T M (pL pb lv en op) [] (fu pb en op (fun k v _=>v=.int .i64 k) (CT aW)) (fW pb en (CT aW)):=by
 refine aC abT rfl rfl ?_
 intro bi _
 simp only [aK] at bi
 simp +contextual only [go_sem,aE,sevalprocAttr]
 intro b4 dI dY
 refine br 2 7 [(0,.pointer (some ⟨pb,0,none⟩)),(5,.slice (some ⟨b4,0,none⟩) 2 2),(6,.int .i64 2)]
  (fun i e h=>(∃ M' lv',bh M M'/\h=⟨T,M',pL pb lv' en op,[]⟩/\M' b4=some (vK.map st)/\RS M' gn 3 aW lv'/\M' pb=none)/\bD vK aW=(bD (vK.drop i) aW).map (·+i))
  0 (by omega) (by simp only [aG,go_sem,sevalprocAttr]) (by simp only [go_sem,sevalprocAttr]) (aT fun he hb bi=>az ⟨⟨_,lv,he,rfl,hb,aL he (fun _ _ h=>h) hl,by simpa only [aK] using bi⟩,by simp⟩) ?_
 rintro i e h hi aI ht ⟨⟨M2,lv6,bg,rfl,hw,lY,ZL⟩,kQ⟩
 simp only [aG] at aI
 by_cases aN:i<2
 ·have kD:i<vK.length:=aN
  have bA:vK.drop i=vK[i]::vK.drop (i+1):=dq kD
  rw [bA] at kQ
  have hx:aQ M2 ⟨b4,i,none⟩=some (st vK[i]):=by
   rw [aX hw,List.getElem?_map,gq kD]
   rfl
  have Nr:(i:Int)<2:=by omega
  simp +contextual only [go_sem,aE,sevalprocAttr,aI,ht,Nr,hx]
  refine ir [] vK[i] lY (fun hs lv7 oE=> ?_) (fun hs lv7 oE=> ?_)
  ·have Jm:bD vK aW=some i:=by rw [kQ];simp [bD,hs]
   have zq:IntKind.i64.wrap (2*(i:Int))=2*(i:Int):=bJ (by omega) (by omega)
   have hw2:IntKind.i64.wrap (2*(i:Int)+1)=2*(i:Int)+1:=bJ (by omega) (by omega)
   have hw3:IntKind.i64.wrap (2*(i:Int)+2)=2*(i:Int)+2:=bJ (by omega) (by omega)
   have hj:CT aW=if bH aaH aW.tail=true then .ok (2*(i:Int)+1) aW.tail.tail else .ok (2*(i:Int)+2) aW.tail:=by unfold CT;rw [Jm]
   simp +contextual only [go_sem,aE,sevalprocAttr,aI]
   refine ir [] aaH oE (fun lZ lv8 rJ=> ?_) (fun lZ lv8 rJ=> ?_)
   ·rw [if_pos lZ] at hj
    simp +contextual only [go_sem,aE,sevalprocAttr,zq,hw2]
    refine aM aH.rfl' rfl rfl ?_
    exact ⟨_,_,lv8,hj,rfl,rJ,rfl,rfl⟩
   ·rw [if_neg (by simp [lZ])] at hj
    simp +contextual only [go_sem,aE,sevalprocAttr,zq,hw3]
    refine aM aH.rfl' rfl rfl ?_
    exact ⟨_,_,lv8,hj,rfl,rJ,rfl,rfl⟩
  ·simp +contextual only [go_sem,aE,sevalprocAttr,ht]
   refine cI aN ?_ ?_ ⟨⟨M2,lv7,bg,rfl,hw,oE,ZL⟩,?_⟩
   ·simp only [aG,aI,go_sem,sevalprocAttr]
   ·simp only [go_sem,sevalprocAttr,aB i (by omega)]
   ·rw [kQ]
    simp only [bD,hs,Bool.false_eq_true,if_false,Option.map_map]
    congr 1
    funext n
    simp only [Function.comp];omega
 ·have:i=2:=by omega
  subst this
  have Jm:bD vK aW=none:=by rw [kQ];rfl
  have h33:¬ ((2:Nat):Int)<2:=by omega
  simp +contextual only [go_sem,aE,sevalprocAttr,aI,ht]
  refine aM aH.rfl' rfl rfl ?_
  exact ⟨0,aW,lv6,by unfold CT;rw [Jm],rfl,lY,rfl,rfl⟩
def oC:List Bs:=[acJ,ahE,aeq]
def pZ (en:Int)(t:List Tk):Rs Co:=(ij en t).bind fun n t=>match bD oC t with
 | none=> .err 2 (oP en t)
 | some k=> .ok ⟨n,2+k⟩ t.tail
theorem iZ {en:Int}{t:List Tk}:ij en t≠ .out:=by
 cases t with
 | nil=>simp [ij]
 | cons t r=>
  simp only [ij]
  split
  ·split<;>simp
  ·simp
theorem yj {en:Int}{t:List Tk}:pZ en t≠ .out:=by
 unfold pZ
 cases hn:ij en t with
 | out=>exact (iZ hn).elim
 | ok a r=>simp only [Rs.bind];split<;>simp
 | err e a=>simp [Rs.bind]
def XC (i:Co)(v:Value)(M:aS):Prop:=∃ cs,v=.agg ⟨cs⟩/\sA i cs
theorem LC {M:aS}{pb:Nat}{aW:List Tk}{lv:Value}{en op:Int}(hg:eX M)(hl:RS M gn 3 aW lv)(T:Tm):
 cw Tryz.prog 98 [.pointer (some ⟨pb,0,none⟩)] T M (pL pb lv en op) [] (fu pb en op XC (pZ en aW)) (fW pb en (pZ en aW)):=by
 refine aC F98 rfl rfl ?_
 intro bi _
 simp only [aK] at bi
 simp +contextual only [go_sem,sevalprocAttr]
 intro b2 T2 ey gx dV fG
 refine bZ [(b2,_)] dV rfl yj (fun _=>gO hg hl T2) ?_
 rintro v M1 n t lv1 aV bG ax gI rfl
 simp only [nn,aJ,aK] at bG
 simp +contextual only [go_sem,aE,sevalprocAttr]
 intro b3 T3 gj cL fB hZ b4 dI dY
 have hT:=dV.trans fB
 refine br 3 11 [(0,.pointer (some ⟨pb,0,none⟩)),(2,.pointer (some ⟨b2,0,none⟩)),(3,.pointer (some ⟨b3,0,none⟩)),(9,.slice (some ⟨b4,0,none⟩) 3 3),(10,.int .i64 3)]
  (fun i e h=>(∃ M' lv',bh M1 M'/\h=⟨T3,M',(b3,[.string (bs n),.int .i64 0])::(b2,[.string (bs []),.int .i64 0])::pL pb lv' en op,[]⟩/\M' b4=some (oC.map st)/\RS M' gn 3 t lv'/\M' b3=none/\M' b2=none/\M' pb=none)/\bD oC t=(bD (oC.drop i) t).map (·+i))
  0 (by omega) (by simp only [aG,go_sem,sevalprocAttr]) (by simp only [go_sem,sevalprocAttr]) (aT fun he hb bi=>az ⟨⟨_,lv1,he,rfl,hb,aL he (fun _ _ h=>h) gI,bi.1,bi.2.1,by simpa only [aK] using bi.2.2⟩,by simp⟩) ?_
 rintro i e h hi aI ht ⟨⟨M2,lv6,bg,rfl,hw,lY,P8,rW,ZL⟩,kQ⟩
 simp only [aG] at aI
 by_cases aN:i<3
 ·have kD:i<oC.length:=aN
  have bA:oC.drop i=oC[i]::oC.drop (i+1):=dq kD
  rw [bA] at kQ
  have hx:aQ M2 ⟨b4,i,none⟩=some (st oC[i]):=by
   rw [aX hw,List.getElem?_map,gq kD]
   rfl
  have Nr:(i:Int)<3:=by omega
  simp +contextual only [go_sem,aE,sevalprocAttr,aI,ht,Nr,hx]
  refine ir [(b3,_),(b2,_)] oC[i] lY (fun hs lv7 oE=> ?_) (fun hs lv7 oE=> ?_)
  ·have Jm:bD oC t=some i:=by rw [kQ];simp [bD,hs]
   have LG:IntKind.i64.wrap (2+(i:Int))=2+(i:Int):=bJ (by omega) (by omega)
   rw [Jm] at ax
   simp +contextual only [go_sem,aE,sevalprocAttr,aI,LG,P8,rW,cL]
   refine ak (ak (aM hT rfl rfl ?_))
   exact ⟨_,_,lv7,ax,rfl,oE,rfl,_,rfl,rfl⟩
  ·simp +contextual only [go_sem,aE,sevalprocAttr,ht]
   refine cI aN ?_ ?_ ⟨⟨M2,lv7,bg,rfl,hw,oE,P8,rW,ZL⟩,?_⟩
   ·simp only [aG,aI,go_sem,sevalprocAttr]
   ·simp only [go_sem,sevalprocAttr,aB i (by omega)]
   ·rw [kQ]
    simp only [bD,hs,Bool.false_eq_true,if_false,Option.map_map]
    congr 1
    funext n
    simp only [Function.comp];omega
 ·have:i=3:=by omega
  subst this
  have Jm:bD oC t=none:=by rw [kQ];rfl
  rw [Jm] at ax
  have h33:¬ ((3:Nat):Int)<3:=by omega
  simp +contextual only [go_sem,aE,sevalprocAttr,aI,ht]
  refine lQ [(b3,_),(b2,_)] lY ?_
  simp +contextual only [go_sem,sevalprocAttr]
  exact fd [(b3,_),(b2,_)] hT ax
end Go.Proofs.YtmccpbcbofhmlaaGreatDoor
