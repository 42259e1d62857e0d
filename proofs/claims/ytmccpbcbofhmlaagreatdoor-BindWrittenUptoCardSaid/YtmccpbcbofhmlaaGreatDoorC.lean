import Derived.Test.YtmccpbcbofhmlaaGreatDoorProg
import Derived.Test.YtmccpbcbofhmlaaGreatDoorB
import Derived.Shelf.Strings.Builder1
import Derived.Shelf.Strings.Builder2
import Derived.Shelf.Small.Strs
import Derived.Shelf.Strconv.Itoa0
import Derived.Shelf.Strconv.Itoa1
import Derived.Shelf.LaysM
import Derived.Shelf.Strconv.Itoa2
import Derived.Shelf.Strconv.Itoa3
import Derived.Shelf.Strconv.Itoa4
import Derived.Shelf.Strconv.ParseIntEmpty
import Derived.Shelf.Strconv.Clone
import Derived.Shelf.Strconv.SyntaxError
import Derived.Shelf.LaysC
import Derived.Shelf.Strconv.ToError
import Derived.Shelf.Strconv.Lower
import Derived.Shelf.Strconv.ParseUint10
import Derived.Shelf.Strconv.ParseUint10Empty
import Derived.Shelf.Strconv.ParseUint10Any
import Derived.Shelf.Strconv.ParseInt10
import Derived.Shelf.Strconv.RangeError
import Derived.Shelf.Strconv.ToErrorRange
import Derived.Shelf.Strconv.ParseUintEmpty
import Derived.Shelf.Strconv.ParseUint10b64
import Derived.Shelf.Strconv.ParseUint10b32
import Derived.Shelf.Strconv.ParseUint10b16
import Derived.Shelf.Strconv.ParseUint10b8
import Derived.Shelf.Strconv.ParseUint10At
import Derived.Shelf.Strconv.ParseInt10At64
import Derived.Shelf.Strconv.ParseInt10At32
import Derived.Shelf.Strconv.ParseInt10At16
import Derived.Shelf.Strconv.ParseInt10At8
import Derived.Shelf.Strconv.ParseInt10All
import Derived.Shelf.Strconv.ParseIntPublic10
import Derived.Shelf.Strings.Search1
import Derived.Shelf.Strings.Search2
import Derived.Shelf.Strings.Search3
import Derived.Shelf.Strings.Count
import Derived.Shelf.Strings.Shaped
import Derived.Shelf.Strings.Prefix
import Derived.Shelf.Strings.Split
import Derived.Shelf.Strings.Fields
import Derived.Shelf.Strings.Replace
import Derived.Shelf.Unicode.Latin
import Derived.Shelf.Unicode.DecodeSlow
import Derived.Shelf.Unicode.Is16White
import Derived.Shelf.Unicode.IsSpaceAny
import Derived.Shelf.Unicode.Is16Any
import Derived.Shelf.Unicode.Is32Any
import Derived.Shelf.Unicode.ExclAny
import Derived.Lib.ParseIntB
set_option linter.all false
namespace Go.Proofs.YtmccpbcbofhmlaaGreatDoor
open Go Vc
theorem mx:Tryz.prog.follows .mixedOrders=true:=by kernel_rfl
theorem CB:aK Tryz.prog 10=true:=by kernel_rfl
theorem adP:aK Tryz.prog 100=true:=by kernel_rfl
theorem aeI:aK Tryz.prog 101=true:=by kernel_rfl
theorem adm:aK Tryz.prog 105=true:=by kernel_rfl
theorem Qw:aK Tryz.prog 106=true:=by kernel_rfl
theorem aeh:aK Tryz.prog 107=true:=by kernel_rfl
theorem aex:aK Tryz.prog 108=true:=by kernel_rfl
theorem acm:aK Tryz.prog 109=true:=by kernel_rfl
theorem Rv:aK Tryz.prog 110=true:=by kernel_rfl
theorem aay:aK Tryz.prog 119=true:=by kernel_rfl
theorem aok:aK Tryz.prog 12=true:=by kernel_rfl
theorem abB:aK Tryz.prog 120=true:=by kernel_rfl
theorem ade:aK Tryz.prog 121=true:=by kernel_rfl
theorem aaV:aK Tryz.prog 122=true:=by kernel_rfl
theorem aeB:aK Tryz.prog 123=true:=by kernel_rfl
theorem acG:aK Tryz.prog 124=true:=by kernel_rfl
theorem aec:aK Tryz.prog 125=true:=by kernel_rfl
theorem xB:aK Tryz.prog 126=true:=by kernel_rfl
theorem Z5:aK Tryz.prog 127=true:=by kernel_rfl
theorem adv:aK Tryz.prog 128=true:=by kernel_rfl
theorem OQ:aK Tryz.prog 129=true:=by kernel_rfl
theorem ad8:aK Tryz.prog 130=true:=by kernel_rfl
theorem aaG:aK Tryz.prog 131=true:=by kernel_rfl
theorem acq:aK Tryz.prog 132=true:=by kernel_rfl
theorem aaX:aK Tryz.prog 136=true:=by kernel_rfl
theorem aeC:aK Tryz.prog 138=true:=by kernel_rfl
theorem acj:aK Tryz.prog 139=true:=by kernel_rfl
theorem adG:aK Tryz.prog 140=true:=by kernel_rfl
theorem acl:aK Tryz.prog 141=true:=by kernel_rfl
theorem aaH:aK Tryz.prog 142=true:=by kernel_rfl
theorem aaf:aK Tryz.prog 143=true:=by kernel_rfl
theorem aan:aK Tryz.prog 144=true:=by kernel_rfl
theorem aac:aK Tryz.prog 145=true:=by kernel_rfl
theorem Qm:aK Tryz.prog 146=true:=by kernel_rfl
theorem aar:aK Tryz.prog 147=true:=by kernel_rfl
theorem ac1:aK Tryz.prog 148=true:=by kernel_rfl
theorem S6:aK Tryz.prog 149=true:=by kernel_rfl
theorem ane:aK Tryz.prog 15=true:=by kernel_rfl
theorem abv:aK Tryz.prog 150=true:=by kernel_rfl
theorem aa6:aK Tryz.prog 151=true:=by kernel_rfl
theorem Z4:aK Tryz.prog 152=true:=by kernel_rfl
theorem adO:aK Tryz.prog 153=true:=by kernel_rfl
theorem aha:aK Tryz.prog 16=true:=by kernel_rfl
theorem akA:aK Tryz.prog 17=true:=by kernel_rfl
theorem acn:aK Tryz.prog 170=true:=by kernel_rfl
theorem adY:aK Tryz.prog 173=true:=by kernel_rfl
theorem abo:aK Tryz.prog 174=true:=by kernel_rfl
theorem aaS:aK Tryz.prog 175=true:=by kernel_rfl
theorem Q2:aK Tryz.prog 176=true:=by kernel_rfl
theorem Yj:aK Tryz.prog 18=true:=by kernel_rfl
theorem abG:aK Tryz.prog 180=true:=by kernel_rfl
theorem abt:aK Tryz.prog 182=true:=by kernel_rfl
theorem aeg:aK Tryz.prog 183=true:=by kernel_rfl
theorem aeK:aK Tryz.prog 184=true:=by kernel_rfl
theorem abO:aK Tryz.prog 185=true:=by kernel_rfl
theorem abJ:aK Tryz.prog 186=true:=by kernel_rfl
theorem Pk:aK Tryz.prog 187=true:=by kernel_rfl
theorem adn:aK Tryz.prog 188=true:=by kernel_rfl
theorem acQ:aK Tryz.prog 189=true:=by kernel_rfl
theorem Zg:aK Tryz.prog 19=true:=by kernel_rfl
theorem abP:aK Tryz.prog 190=true:=by kernel_rfl
theorem aeD:aK Tryz.prog 191=true:=by kernel_rfl
theorem aa7:aK Tryz.prog 192=true:=by kernel_rfl
theorem aaw:aK Tryz.prog 193=true:=by kernel_rfl
theorem af0:aK Tryz.prog 20=true:=by kernel_rfl
theorem anm:aK Tryz.prog 21=true:=by kernel_rfl
theorem acM:aK Tryz.prog 226=true:=by kernel_rfl
theorem Pm:aK Tryz.prog 227=true:=by kernel_rfl
theorem H3:aK Tryz.prog 228=true:=by kernel_rfl
theorem adK:aK Tryz.prog 229=true:=by kernel_rfl
theorem adV:aK Tryz.prog 230=true:=by kernel_rfl
theorem adz:aK Tryz.prog 231=true:=by kernel_rfl
theorem aax:aK Tryz.prog 232=true:=by kernel_rfl
theorem aep:aK Tryz.prog 233=true:=by kernel_rfl
theorem acB:aK Tryz.prog 239=true:=by kernel_rfl
theorem akL:aK Tryz.prog 27=true:=by kernel_rfl
theorem aeN:aK Tryz.prog 271=true:=by kernel_rfl
theorem ab8:aK Tryz.prog 272=true:=by kernel_rfl
theorem ac9:aK Tryz.prog 273=true:=by kernel_rfl
theorem adJ:aK Tryz.prog 274=true:=by kernel_rfl
theorem amW:aK Tryz.prog 29=true:=by kernel_rfl
theorem aj2:aK Tryz.prog 30=true:=by kernel_rfl
theorem KS:aK Tryz.prog 31=true:=by kernel_rfl
theorem Ld:aK Tryz.prog 37=true:=by kernel_rfl
theorem ahZ:aK Tryz.prog 38=true:=by kernel_rfl
theorem KZ:aK Tryz.prog 39=true:=by kernel_rfl
theorem ajC:aK Tryz.prog 40=true:=by kernel_rfl
theorem af2:aK Tryz.prog 41=true:=by kernel_rfl
theorem Zu:aK Tryz.prog 42=true:=by kernel_rfl
theorem alY:aK Tryz.prog 43=true:=by kernel_rfl
theorem agc:aK Tryz.prog 44=true:=by kernel_rfl
theorem aiH:aK Tryz.prog 47=true:=by kernel_rfl
theorem anx:aK Tryz.prog 48=true:=by kernel_rfl
theorem agO:aK Tryz.prog 49=true:=by kernel_rfl
theorem ats:aK Tryz.prog 5=true:=by kernel_rfl
theorem anO:aK Tryz.prog 50=true:=by kernel_rfl
theorem JY:aK Tryz.prog 51=true:=by kernel_rfl
theorem Yp:aK Tryz.prog 52=true:=by kernel_rfl
theorem anF:aK Tryz.prog 61=true:=by kernel_rfl
theorem ZK:aK Tryz.prog 62=true:=by kernel_rfl
theorem ajJ:aK Tryz.prog 63=true:=by kernel_rfl
theorem ami:aK Tryz.prog 64=true:=by kernel_rfl
theorem Ri:aK Tryz.prog 65=true:=by kernel_rfl
theorem akF:aK Tryz.prog 66=true:=by kernel_rfl
theorem aoN:aK Tryz.prog 67=true:=by kernel_rfl
theorem ZB:aK Tryz.prog 68=true:=by kernel_rfl
theorem Yb:aK Tryz.prog 76=true:=by kernel_rfl
theorem YJ:aK Tryz.prog 77=true:=by kernel_rfl
theorem Sg:aK Tryz.prog 78=true:=by kernel_rfl
theorem Za:aK Tryz.prog 79=true:=by kernel_rfl
theorem aoW:aK Tryz.prog 80=true:=by kernel_rfl
theorem ahl:aK Tryz.prog 81=true:=by kernel_rfl
theorem aof:aK Tryz.prog 82=true:=by kernel_rfl
theorem amk:aK Tryz.prog 83=true:=by kernel_rfl
theorem anq:aK Tryz.prog 84=true:=by kernel_rfl
theorem ah9:aK Tryz.prog 85=true:=by kernel_rfl
theorem J3:aK Tryz.prog 86=true:=by kernel_rfl
theorem aik:aK Tryz.prog 87=true:=by kernel_rfl
theorem cY:aK Tryz.prog 88=true:=by kernel_rfl
theorem aft:aK Tryz.prog 89=true:=by kernel_rfl
theorem as3:aK Tryz.prog 9=true:=by kernel_rfl
theorem aoi:aK Tryz.prog 90=true:=by kernel_rfl
theorem alU:aK Tryz.prog 91=true:=by kernel_rfl
theorem amM:aK Tryz.prog 93=true:=by kernel_rfl
theorem akX:aK Tryz.prog 94=true:=by kernel_rfl
theorem aob:aK Tryz.prog 95=true:=by kernel_rfl
theorem ajV:aK Tryz.prog 96=true:=by kernel_rfl
theorem agG:aK Tryz.prog 97=true:=by kernel_rfl
theorem ag5:aK Tryz.prog 98=true:=by kernel_rfl
theorem aig:aK Tryz.prog 99=true:=by kernel_rfl
theorem af6:bt Tryz.prog 102=some ([(.slice none 0 0),(.slice none 0 0),(.pointer none),(.pointer none)],[(0,1),(1,1),(2,1),(3,1)]):=by kernel_rfl
theorem alB:bt Tryz.prog 104=some ([(.string ⟨#[]⟩),(.string ⟨#[]⟩)],[(0,1),(1,1)]):=by kernel_rfl
theorem am7:bt Tryz.prog 108=some ([(.int .i64 (0))],[(0,1)]):=by kernel_rfl
theorem ajQ:bt Tryz.prog 114=some ([(.slice none 0 0),(.bool false),(.slice none 0 0),(.slice none 0 0)],[(0,1),(1,1),(2,1),(3,1)]):=by kernel_rfl
theorem am4:bt Tryz.prog 116=some ([(.string ⟨#[]⟩),(.string ⟨#[]⟩)],[(0,1),(1,1)]):=by kernel_rfl
theorem akl:bt Tryz.prog 119=some ([(.int .i64 (0)),(.int .i64 (0)),(.int .i64 (0)),(.int .i64 (0)),(.string ⟨#[]⟩),(.int .i64 (0)),(.slice none 0 0)],[(0,1),(1,6)]):=by kernel_rfl
theorem ahd:bt Tryz.prog 127=some ([(.slice none 0 0),(.int .i64 (0))],[(0,1),(1,1)]):=by kernel_rfl
theorem am8:bt Tryz.prog 138=some ([(.pointer none),(.slice none 0 0)],[(0,2)]):=by kernel_rfl
theorem alc:bt Tryz.prog 144=some ([(.int .i64 (0)),(.int .i64 (0))],[(0,2)]):=by kernel_rfl
theorem agx:bt Tryz.prog 149=some ([(.slice none 0 0),(.int .i64 (0)),(.int .i64 (0))],[(0,1),(1,1),(2,1)]):=by kernel_rfl
theorem amV:bt Tryz.prog 159=some ([(.slice none 0 0),(.int .i64 (0))],[(0,1),(1,1)]):=by kernel_rfl
theorem af9:bt Tryz.prog 161=some ([(.int .i64 (0)),(.int .i64 (0)),(.int .i64 (0)),(.string ⟨#[]⟩),(.string ⟨#[]⟩),(.string ⟨#[]⟩),(.slice none 0 0),(.string ⟨#[]⟩)],[(0,7),(7,1)]):=by kernel_rfl
theorem aod:bt Tryz.prog 181=some ([(.slice none 0 0),(.int .i64 (0))],[(0,1),(1,1)]):=by kernel_rfl
theorem anR:bt Tryz.prog 199=some ([(.int .i64 (0)),(.string ⟨#[]⟩),(.int .i64 (0))],[(0,1),(1,1),(2,1)]):=by kernel_rfl
theorem aiz:bt Tryz.prog 266=some ([(.slice none 0 0),(.int .i64 (0))],[(0,1),(1,1)]):=by kernel_rfl
theorem asH:bt Tryz.prog 27=some ([(.slice none 0 0),(.slice none 0 0),(.slice none 0 0),(.int .i64 (0))],[(0,1),(1,1),(2,1),(3,1)]):=by kernel_rfl
theorem afH:bt Tryz.prog 272=some ([(.int .i64 (0))],[(0,1)]):=by kernel_rfl
theorem ajg:bt Tryz.prog 278=some ([(.slice none 0 0),(.int .i64 (0)),(.bool false)],[(0,1),(1,1),(2,1)]):=by kernel_rfl
theorem aqR:bt Tryz.prog 29=some ([(.int .i64 (0)),(.int .i64 (0)),(.string ⟨#[]⟩)],[(0,1),(1,1),(2,1)]):=by kernel_rfl
theorem at6:bt Tryz.prog 31=some ([(.int .i64 (0)),(.int .i64 (0)),(.int .i64 (0)),(.string ⟨#[]⟩),(.string ⟨#[]⟩),(.string ⟨#[]⟩),(.slice none 0 0)],[(0,1),(1,3),(4,1),(5,1),(6,1)]):=by kernel_rfl
theorem af7:bt Tryz.prog 320=some ([(.slice none 0 0),(.int .i64 (0))],[(0,1),(1,1)]):=by kernel_rfl
theorem alO:bt Tryz.prog 353=some ([(.slice none 0 0),(.slice none 0 0)],[(0,1),(1,1)]):=by kernel_rfl
theorem aq7:bt Tryz.prog 38=some ([(.int .i64 (0)),(.int .i64 (0)),(.int .i64 (0)),(.string ⟨#[]⟩),(.int .i64 (0)),(.slice none 0 0)],[(0,1),(1,3),(4,1),(5,1)]):=by kernel_rfl
theorem aqX:bt Tryz.prog 42=some ([(.int .i64 (0)),(.int .i64 (0)),(.int .i64 (0)),(.int .i64 (0)),(.int .i64 (0)),(.string ⟨#[]⟩),(.int .i64 (0)),(.slice none 0 0),(.slice none 0 0),(.slice none 0 0),(.slice none 0 0)],[(0,1),(1,1),(2,6),(8,1),(9,1),(10,1)]):=by kernel_rfl
theorem asi:bt Tryz.prog 48=some ([(.string ⟨#[]⟩),(.int .i64 (0))],[(0,1),(1,1)]):=by kernel_rfl
theorem aqY:bt Tryz.prog 52=some ([(.string ⟨#[]⟩),(.slice none 0 0),(.bool false),(.int .i64 (0)),(.int .i64 (0)),(.int .i64 (0)),(.int .i64 (0)),(.int .i64 (0)),(.string ⟨#[]⟩),(.int .i64 (0)),(.slice none 0 0),(.slice none 0 0),(.slice none 0 0),(.slice none 0 0)],[(0,1),(1,1),(2,1),(3,11)]):=by kernel_rfl
theorem apE:bt Tryz.prog 62=some ([(.int .i64 (0)),(.int .i64 (0))],[(0,1),(1,1)]):=by kernel_rfl
theorem aqc:bt Tryz.prog 67=some ([(.int .i64 (0)),(.string ⟨#[]⟩),(.slice none 0 0),(.slice none 0 0),(.slice none 0 0),(.slice none 0 0),(.int .i64 (0)),(.slice none 0 0),(.bool false),(.int .i64 (0)),(.int .i64 (0)),(.int .i64 (0)),(.string ⟨#[]⟩),(.string ⟨#[]⟩),(.string ⟨#[]⟩),(.slice none 0 0)],[(0,1),(1,1),(2,1),(3,4),(7,1),(8,1),(9,7)]):=by kernel_rfl
theorem aqk:bt Tryz.prog 75=some ([(.int .i64 (0)),(.string ⟨#[]⟩),(.string ⟨#[]⟩),(.int .i64 (0)),(.int .i64 (0)),(.int .i64 (0)),(.string ⟨#[]⟩),(.string ⟨#[]⟩),(.string ⟨#[]⟩),(.slice none 0 0)],[(0,1),(1,1),(2,1),(3,7)]):=by kernel_rfl
theorem ar4:bt Tryz.prog 79=some ([(.bool false),(.bool false),(.slice none 0 0),(.slice none 0 0),(.bool false),(.bool false),(.int .i64 (0)),(.int .i64 (0)),(.int .i64 (0)),(.string ⟨#[]⟩),(.string ⟨#[]⟩),(.string ⟨#[]⟩),(.slice none 0 0),(.int .i64 (0)),(.int .i64 (0)),(.int .i64 (0)),(.string ⟨#[]⟩),(.string ⟨#[]⟩),(.string ⟨#[]⟩),(.slice none 0 0),(.slice none 0 0)],[(0,1),(1,1),(2,1),(3,1),(4,1),(5,1),(6,7),(13,7),(20,1)]):=by kernel_rfl
theorem arc:bt Tryz.prog 89=some ([(.int .i64 (0))],[(0,1)]):=by kernel_rfl
theorem ash:bt Tryz.prog 92=some ([(.slice none 0 0)],[(0,1)]):=by kernel_rfl
theorem UZ:Tryz.prog.concrete 144=true:=by kernel_rfl
theorem adp:Tryz.prog.concrete 89=true:=by kernel_rfl
theorem alG:Tryz.prog.concrete 9=true:=by kernel_rfl
theorem XL:cvT Tryz.prog 363 3=some .i64:=by kernel_rfl
theorem U8:cvT Tryz.prog 3 363=some .u64:=by kernel_rfl
theorem Hw:SA Tryz.prog 133 328=0:=by kernel_rfl
theorem IH:SA Tryz.prog 328 133=0:=by kernel_rfl
theorem OS:SA Tryz.prog 363 3=0:=by kernel_rfl
theorem O1:SA Tryz.prog 3 363=0:=by kernel_rfl
theorem alT:dA Tryz.prog 112=some 2:=by kernel_rfl
theorem aiB:dA Tryz.prog 134=some 1:=by kernel_rfl
theorem aoB:dA Tryz.prog 146=some 3:=by kernel_rfl
theorem alo:dA Tryz.prog 157=some 3:=by kernel_rfl
theorem at7:dA Tryz.prog 22=some 14:=by kernel_rfl
theorem aqT:dA Tryz.prog 23=some 21:=by kernel_rfl
theorem akn:dA Tryz.prog 234=some 1:=by kernel_rfl
theorem at3:dA Tryz.prog 24=some 1:=by kernel_rfl
theorem arA:dA Tryz.prog 25=some 7:=by kernel_rfl
theorem amq:dA Tryz.prog 275=some 3:=by kernel_rfl
theorem aif:dA Tryz.prog 303=some 1:=by kernel_rfl
theorem akT:dA Tryz.prog 340=some 1:=by kernel_rfl
theorem ahP:dA Tryz.prog 345=some 1:=by kernel_rfl
theorem amg:dA Tryz.prog 351=some 2:=by kernel_rfl
theorem as7:dA Tryz.prog 36=some 6:=by kernel_rfl
theorem alM:dA Tryz.prog 369=some 1:=by kernel_rfl
theorem auo:dA Tryz.prog 39=some 7:=by kernel_rfl
theorem ap3:dA Tryz.prog 40=some 11:=by kernel_rfl
theorem ar3:dA Tryz.prog 43=some 2:=by kernel_rfl
theorem aux:dA Tryz.prog 58=some 1:=by kernel_rfl
theorem arC:dA Tryz.prog 65=some 1:=by kernel_rfl
theorem arl:dA Tryz.prog 68=some 16:=by kernel_rfl
theorem auh:dA Tryz.prog 72=some 1:=by kernel_rfl
theorem at5:dA Tryz.prog 76=some 10:=by kernel_rfl
theorem arq:dA Tryz.prog 77=some 8:=by kernel_rfl
theorem apW:dA Tryz.prog 80=some 2:=by kernel_rfl
theorem ap4:dA Tryz.prog 93=some 1:=by kernel_rfl
theorem aq0:dA Tryz.prog 99=some 2:=by kernel_rfl
theorem acL:fdP Tryz.prog 29 0=some (false,0,1):=by kernel_rfl
theorem UU:cw Tryz.prog 102 0=some 0:=by kernel_rfl
theorem VL:cw Tryz.prog 102 1=some 1:=by kernel_rfl
theorem Xv:cw Tryz.prog 102 2=some 2:=by kernel_rfl
theorem VT:cw Tryz.prog 102 3=some 3:=by kernel_rfl
theorem W5:cw Tryz.prog 104 0=some 0:=by kernel_rfl
theorem Wd:cw Tryz.prog 104 1=some 1:=by kernel_rfl
theorem XN:cw Tryz.prog 108 0=some 0:=by kernel_rfl
theorem W7:cw Tryz.prog 114 0=some 0:=by kernel_rfl
theorem Wg:cw Tryz.prog 114 1=some 1:=by kernel_rfl
theorem WW:cw Tryz.prog 114 2=some 2:=by kernel_rfl
theorem WD:cw Tryz.prog 114 3=some 3:=by kernel_rfl
theorem XK:cw Tryz.prog 116 0=some 0:=by kernel_rfl
theorem U7:cw Tryz.prog 116 1=some 1:=by kernel_rfl
theorem XJ:cw Tryz.prog 119 0=some 0:=by kernel_rfl
theorem WT:cw Tryz.prog 119 1=some 1:=by kernel_rfl
theorem UQ:cw Tryz.prog 127 0=some 0:=by kernel_rfl
theorem Wl:cw Tryz.prog 127 1=some 1:=by kernel_rfl
theorem WZ:cw Tryz.prog 136 0=some 0:=by kernel_rfl
theorem U0:cw Tryz.prog 136 1=some 1:=by kernel_rfl
theorem XG:cw Tryz.prog 138 0=some 0:=by kernel_rfl
theorem U6:cw Tryz.prog 144 0=some 0:=by kernel_rfl
theorem VI:cw Tryz.prog 149 0=some 0:=by kernel_rfl
theorem Vp:cw Tryz.prog 149 1=some 1:=by kernel_rfl
theorem Wo:cw Tryz.prog 149 2=some 2:=by kernel_rfl
theorem WF:cw Tryz.prog 159 0=some 0:=by kernel_rfl
theorem Wh:cw Tryz.prog 159 1=some 1:=by kernel_rfl
theorem UV:cw Tryz.prog 161 0=some 0:=by kernel_rfl
theorem UR:cw Tryz.prog 161 1=some 7:=by kernel_rfl
theorem VR:cw Tryz.prog 181 0=some 0:=by kernel_rfl
theorem XF:cw Tryz.prog 181 1=some 1:=by kernel_rfl
theorem VA:cw Tryz.prog 199 0=some 0:=by kernel_rfl
theorem Vy:cw Tryz.prog 199 1=some 1:=by kernel_rfl
theorem Vd:cw Tryz.prog 199 2=some 2:=by kernel_rfl
theorem VG:cw Tryz.prog 266 0=some 0:=by kernel_rfl
theorem Vl:cw Tryz.prog 266 1=some 1:=by kernel_rfl
theorem W8:cw Tryz.prog 272 0=some 0:=by kernel_rfl
theorem V0:cw Tryz.prog 278 0=some 0:=by kernel_rfl
theorem V2:cw Tryz.prog 278 1=some 1:=by kernel_rfl
theorem Vv:cw Tryz.prog 278 2=some 2:=by kernel_rfl
theorem aa4:cw Tryz.prog 27 0=some 0:=by kernel_rfl
theorem aah:cw Tryz.prog 27 1=some 1:=by kernel_rfl
theorem ad0:cw Tryz.prog 27 2=some 2:=by kernel_rfl
theorem aeO:cw Tryz.prog 27 3=some 3:=by kernel_rfl
theorem abI:cw Tryz.prog 29 0=some 0:=by kernel_rfl
theorem abb:cw Tryz.prog 29 1=some 1:=by kernel_rfl
theorem acU:cw Tryz.prog 29 2=some 2:=by kernel_rfl
theorem acH:cw Tryz.prog 31 0=some 0:=by kernel_rfl
theorem adL:cw Tryz.prog 31 1=some 1:=by kernel_rfl
theorem ad6:cw Tryz.prog 31 2=some 4:=by kernel_rfl
theorem aee:cw Tryz.prog 31 3=some 5:=by kernel_rfl
theorem aeS:cw Tryz.prog 31 4=some 6:=by kernel_rfl
theorem Xi:cw Tryz.prog 320 0=some 0:=by kernel_rfl
theorem VY:cw Tryz.prog 320 1=some 1:=by kernel_rfl
theorem Wa:cw Tryz.prog 353 0=some 0:=by kernel_rfl
theorem UL:cw Tryz.prog 353 1=some 1:=by kernel_rfl
theorem Xg:cw Tryz.prog 388 0=some 0:=by kernel_rfl
theorem Wj:cw Tryz.prog 388 1=some 1:=by kernel_rfl
theorem acO:cw Tryz.prog 38 0=some 0:=by kernel_rfl
theorem aa5:cw Tryz.prog 38 1=some 1:=by kernel_rfl
theorem adE:cw Tryz.prog 38 2=some 4:=by kernel_rfl
theorem aaU:cw Tryz.prog 38 3=some 5:=by kernel_rfl
theorem acu:cw Tryz.prog 42 0=some 0:=by kernel_rfl
theorem aae:cw Tryz.prog 42 1=some 1:=by kernel_rfl
theorem adA:cw Tryz.prog 42 2=some 2:=by kernel_rfl
theorem acJ:cw Tryz.prog 42 3=some 8:=by kernel_rfl
theorem aeR:cw Tryz.prog 42 4=some 9:=by kernel_rfl
theorem aen:cw Tryz.prog 42 5=some 10:=by kernel_rfl
theorem adF:cw Tryz.prog 48 0=some 0:=by kernel_rfl
theorem abQ:cw Tryz.prog 48 1=some 1:=by kernel_rfl
theorem adu:cw Tryz.prog 52 0=some 0:=by kernel_rfl
theorem aaL:cw Tryz.prog 52 1=some 1:=by kernel_rfl
theorem abx:cw Tryz.prog 52 2=some 2:=by kernel_rfl
theorem abS:cw Tryz.prog 52 3=some 3:=by kernel_rfl
theorem acw:cw Tryz.prog 62 0=some 0:=by kernel_rfl
theorem abp:cw Tryz.prog 67 0=some 0:=by kernel_rfl
theorem acC:cw Tryz.prog 67 1=some 1:=by kernel_rfl
theorem aa8:cw Tryz.prog 67 2=some 2:=by kernel_rfl
theorem abz:cw Tryz.prog 67 3=some 3:=by kernel_rfl
theorem ab3:cw Tryz.prog 67 4=some 7:=by kernel_rfl
theorem aeT:cw Tryz.prog 67 5=some 8:=by kernel_rfl
theorem ac5:cw Tryz.prog 67 6=some 9:=by kernel_rfl
theorem ada:cw Tryz.prog 75 0=some 0:=by kernel_rfl
theorem adi:cw Tryz.prog 75 1=some 1:=by kernel_rfl
theorem aeb:cw Tryz.prog 75 2=some 2:=by kernel_rfl
theorem aci:cw Tryz.prog 75 3=some 3:=by kernel_rfl
theorem adg:cw Tryz.prog 79 0=some 0:=by kernel_rfl
theorem aam:cw Tryz.prog 79 1=some 1:=by kernel_rfl
theorem adC:cw Tryz.prog 79 2=some 2:=by kernel_rfl
theorem aeq:cw Tryz.prog 79 3=some 3:=by kernel_rfl
theorem acW:cw Tryz.prog 79 4=some 4:=by kernel_rfl
theorem Z8:cw Tryz.prog 79 5=some 5:=by kernel_rfl
theorem ab6:cw Tryz.prog 79 6=some 6:=by kernel_rfl
theorem abk:cw Tryz.prog 79 7=some 13:=by kernel_rfl
theorem aaW:cw Tryz.prog 79 8=some 20:=by kernel_rfl
theorem ab0:cw Tryz.prog 89 0=some 0:=by kernel_rfl
theorem adl:cw Tryz.prog 92 0=some 0:=by kernel_rfl
theorem ar6:rt Tryz.prog 4=true:=by kernel_rfl
theorem aeu:ej Tryz.prog 112=true:=by kernel_rfl
theorem ac6:ej Tryz.prog 134=true:=by kernel_rfl
theorem abE:ej Tryz.prog 146=true:=by kernel_rfl
theorem abX:ej Tryz.prog 157=true:=by kernel_rfl
theorem ahh:ej Tryz.prog 22=true:=by kernel_rfl
theorem ahY:ej Tryz.prog 23=true:=by kernel_rfl
theorem amH:ej Tryz.prog 24=true:=by kernel_rfl
theorem ais:ej Tryz.prog 25=true:=by kernel_rfl
theorem ac3:ej Tryz.prog 275=true:=by kernel_rfl
theorem aeM:ej Tryz.prog 340=true:=by kernel_rfl
theorem aa9:ej Tryz.prog 351=true:=by kernel_rfl
theorem ajR:ej Tryz.prog 36=true:=by kernel_rfl
theorem acs:ej Tryz.prog 369=true:=by kernel_rfl
theorem afQ:ej Tryz.prog 39=true:=by kernel_rfl
theorem akg:ej Tryz.prog 40=true:=by kernel_rfl
theorem ahL:ej Tryz.prog 43=true:=by kernel_rfl
theorem ams:ej Tryz.prog 58=true:=by kernel_rfl
theorem akp:ej Tryz.prog 65=true:=by kernel_rfl
theorem ajO:ej Tryz.prog 68=true:=by kernel_rfl
theorem ajj:ej Tryz.prog 72=true:=by kernel_rfl
theorem an8:ej Tryz.prog 76=true:=by kernel_rfl
theorem alN:ej Tryz.prog 77=true:=by kernel_rfl
theorem alr:ej Tryz.prog 80=true:=by kernel_rfl
theorem aud:ej Tryz.prog 9=false:=by kernel_rfl
theorem ahQ:ej Tryz.prog 93=true:=by kernel_rfl
theorem aoa:ej Tryz.prog 99=true:=by kernel_rfl
theorem adB:cX Tryz.prog 112=false:=by kernel_rfl
theorem abN:cX Tryz.prog 134=false:=by kernel_rfl
theorem aa0:cX Tryz.prog 146=false:=by kernel_rfl
theorem ac7:cX Tryz.prog 157=false:=by kernel_rfl
theorem alx:cX Tryz.prog 22=false:=by kernel_rfl
theorem ajH:cX Tryz.prog 23=false:=by kernel_rfl
theorem amG:cX Tryz.prog 24=false:=by kernel_rfl
theorem am3:cX Tryz.prog 25=false:=by kernel_rfl
theorem adc:cX Tryz.prog 275=false:=by kernel_rfl
theorem acR:cX Tryz.prog 340=false:=by kernel_rfl
theorem aaT:cX Tryz.prog 351=false:=by kernel_rfl
theorem afv:cX Tryz.prog 36=false:=by kernel_rfl
theorem aad:cX Tryz.prog 369=false:=by kernel_rfl
theorem aga:cX Tryz.prog 39=false:=by kernel_rfl
theorem anJ:cX Tryz.prog 40=false:=by kernel_rfl
theorem alJ:cX Tryz.prog 43=false:=by kernel_rfl
theorem aiF:cX Tryz.prog 58=false:=by kernel_rfl
theorem afT:cX Tryz.prog 65=false:=by kernel_rfl
theorem alf:cX Tryz.prog 68=false:=by kernel_rfl
theorem ak8:cX Tryz.prog 72=false:=by kernel_rfl
theorem akv:cX Tryz.prog 76=false:=by kernel_rfl
theorem akj:cX Tryz.prog 77=false:=by kernel_rfl
theorem anY:cX Tryz.prog 80=false:=by kernel_rfl
theorem atd:cX Tryz.prog 9=true:=by kernel_rfl
theorem aoD:cX Tryz.prog 93=false:=by kernel_rfl
theorem aoK:cX Tryz.prog 99=false:=by kernel_rfl
theorem amr:Gm Tryz.prog 216=some .i64:=by kernel_rfl
theorem alb:Gm Tryz.prog 242=some .i64:=by kernel_rfl
theorem atl:Tryz.f10.ntmps=113:=by kernel_rfl
theorem amw:Tryz.f100.ntmps=14:=by kernel_rfl
theorem anz:Tryz.f101.ntmps=7:=by kernel_rfl
theorem agv:Tryz.f105.ntmps=49:=by kernel_rfl
theorem am5:Tryz.f106.ntmps=9:=by kernel_rfl
theorem afA:Tryz.f107.ntmps=8:=by kernel_rfl
theorem ahD:Tryz.f108.ntmps=19:=by kernel_rfl
theorem agK:Tryz.f109.ntmps=9:=by kernel_rfl
theorem alF:Tryz.f110.ntmps=4:=by kernel_rfl
theorem anH:Tryz.f119.ntmps=18:=by kernel_rfl
theorem ap8:Tryz.f12.ntmps=173:=by kernel_rfl
theorem afO:Tryz.f120.ntmps=32:=by kernel_rfl
theorem amv:Tryz.f121.ntmps=6:=by kernel_rfl
theorem anh:Tryz.f122.ntmps=37:=by kernel_rfl
theorem an1:Tryz.f123.ntmps=60:=by kernel_rfl
theorem ajB:Tryz.f124.ntmps=27:=by kernel_rfl
theorem anW:Tryz.f125.ntmps=127:=by kernel_rfl
theorem alp:Tryz.f126.ntmps=15:=by kernel_rfl
theorem af3:Tryz.f127.ntmps=33:=by kernel_rfl
theorem aky:Tryz.f128.ntmps=6:=by kernel_rfl
theorem ZU:Tryz.f129.ntmps=17:=by kernel_rfl
theorem aoR:Tryz.f130.ntmps=19:=by kernel_rfl
theorem amX:Tryz.f131.ntmps=169:=by kernel_rfl
theorem anT:Tryz.f132.ntmps=21:=by kernel_rfl
theorem ahc:Tryz.f136.ntmps=40:=by kernel_rfl
theorem an0:Tryz.f138.ntmps=13:=by kernel_rfl
theorem amT:Tryz.f139.ntmps=20:=by kernel_rfl
theorem amQ:Tryz.f140.ntmps=9:=by kernel_rfl
theorem anI:Tryz.f141.ntmps=9:=by kernel_rfl
theorem agH:Tryz.f142.ntmps=8:=by kernel_rfl
theorem ajL:Tryz.f143.ntmps=42:=by kernel_rfl
theorem afW:Tryz.f144.ntmps=49:=by kernel_rfl
theorem akH:Tryz.f145.ntmps=77:=by kernel_rfl
theorem ahs:Tryz.f146.ntmps=24:=by kernel_rfl
theorem ahu:Tryz.f147.ntmps=24:=by kernel_rfl
theorem akI:Tryz.f148.ntmps=57:=by kernel_rfl
theorem ak6:Tryz.f149.ntmps=24:=by kernel_rfl
theorem asU:Tryz.f15.ntmps=63:=by kernel_rfl
theorem ai1:Tryz.f150.ntmps=15:=by kernel_rfl
theorem akB:Tryz.f151.ntmps=76:=by kernel_rfl
theorem aol:Tryz.f152.ntmps=19:=by kernel_rfl
theorem aiU:Tryz.f153.ntmps=88:=by kernel_rfl
theorem arD:Tryz.f16.ntmps=56:=by kernel_rfl
theorem auF:Tryz.f17.ntmps=50:=by kernel_rfl
theorem aoE:Tryz.f170.ntmps=19:=by kernel_rfl
theorem ahO:Tryz.f173.ntmps=2:=by kernel_rfl
theorem amh:Tryz.f174.ntmps=137:=by kernel_rfl
theorem anD:Tryz.f175.ntmps=132:=by kernel_rfl
theorem afn:Tryz.f176.ntmps=104:=by kernel_rfl
theorem as9:Tryz.f18.ntmps=36:=by kernel_rfl
theorem ai2:Tryz.f180.ntmps=15:=by kernel_rfl
theorem agk:Tryz.f182.ntmps=18:=by kernel_rfl
theorem alA:Tryz.f183.ntmps=2:=by kernel_rfl
theorem agh:Tryz.f184.ntmps=24:=by kernel_rfl
theorem age:Tryz.f185.ntmps=13:=by kernel_rfl
theorem aib:Tryz.f186.ntmps=24:=by kernel_rfl
theorem agr:Tryz.f187.ntmps=23:=by kernel_rfl
theorem anN:Tryz.f189.ntmps=8:=by kernel_rfl
theorem auf:Tryz.f19.ntmps=37:=by kernel_rfl
theorem aoJ:Tryz.f190.ntmps=136:=by kernel_rfl
theorem aoU:Tryz.f191.ntmps=9:=by kernel_rfl
theorem amK:Tryz.f192.ntmps=19:=by kernel_rfl
theorem akZ:Tryz.f193.ntmps=12:=by kernel_rfl
theorem auw:Tryz.f20.ntmps=43:=by kernel_rfl
theorem arT:Tryz.f21.ntmps=73:=by kernel_rfl
theorem aiu:Tryz.f226.ntmps=31:=by kernel_rfl
theorem afo:Tryz.f227.ntmps=68:=by kernel_rfl
theorem amZ:Tryz.f228.ntmps=18:=by kernel_rfl
theorem alH:Tryz.f229.ntmps=12:=by kernel_rfl
theorem aoX:Tryz.f230.ntmps=12:=by kernel_rfl
theorem agf:Tryz.f231.ntmps=8:=by kernel_rfl
theorem amA:Tryz.f232.ntmps=44:=by kernel_rfl
theorem afu:Tryz.f233.ntmps=43:=by kernel_rfl
theorem aqi:Tryz.f27.ntmps=37:=by kernel_rfl
theorem ajZ:Tryz.f271.ntmps=24:=by kernel_rfl
theorem ajd:Tryz.f272.ntmps=19:=by kernel_rfl
theorem afM:Tryz.f273.ntmps=8:=by kernel_rfl
theorem aht:Tryz.f274.ntmps=7:=by kernel_rfl
theorem ahK:Tryz.f28.ntmps=15:=by kernel_rfl
theorem aqZ:Tryz.f29.ntmps=209:=by kernel_rfl
theorem arM:Tryz.f30.ntmps=33:=by kernel_rfl
theorem ai7:Tryz.f31.ntmps=22:=by kernel_rfl
theorem ag1:Tryz.f37.ntmps=76:=by kernel_rfl
theorem aqB:Tryz.f38.ntmps=26:=by kernel_rfl
theorem asT:Tryz.f39.ntmps=25:=by kernel_rfl
theorem atF:Tryz.f40.ntmps=200:=by kernel_rfl
theorem arg:Tryz.f41.ntmps=8:=by kernel_rfl
theorem aqd:Tryz.f42.ntmps=25:=by kernel_rfl
theorem ar9:Tryz.f43.ntmps=148:=by kernel_rfl
theorem ap0:Tryz.f44.ntmps=8:=by kernel_rfl
theorem aj7:Tryz.f46.ntmps=13:=by kernel_rfl
theorem ate:Tryz.f47.ntmps=38:=by kernel_rfl
theorem ap7:Tryz.f48.ntmps=9:=by kernel_rfl
theorem aqm:Tryz.f49.ntmps=20:=by kernel_rfl
theorem nt5:Tryz.f5.ntmps=73:=by kernel_rfl
theorem ap2:Tryz.f50.ntmps=82:=by kernel_rfl
theorem arQ:Tryz.f51.ntmps=20:=by kernel_rfl
theorem atx:Tryz.f52.ntmps=52:=by kernel_rfl
theorem at2:Tryz.f61.ntmps=113:=by kernel_rfl
theorem aqb:Tryz.f62.ntmps=9:=by kernel_rfl
theorem aqD:Tryz.f63.ntmps=9:=by kernel_rfl
theorem apO:Tryz.f64.ntmps=5:=by kernel_rfl
theorem auB:Tryz.f65.ntmps=15:=by kernel_rfl
theorem aua:Tryz.f66.ntmps=5:=by kernel_rfl
theorem aqK:Tryz.f67.ntmps=23:=by kernel_rfl
theorem asI:Tryz.f68.ntmps=6:=by kernel_rfl
theorem asv:Tryz.f76.ntmps=19:=by kernel_rfl
theorem apC:Tryz.f77.ntmps=6:=by kernel_rfl
theorem apP:Tryz.f78.ntmps=62:=by kernel_rfl
theorem aon:Tryz.f79.ntmps=65:=by kernel_rfl
theorem ass:Tryz.f80.ntmps=50:=by kernel_rfl
theorem atT:Tryz.f81.ntmps=20:=by kernel_rfl
theorem asY:Tryz.f82.ntmps=24:=by kernel_rfl
theorem apX:Tryz.f83.ntmps=35:=by kernel_rfl
theorem atQ:Tryz.f84.ntmps=51:=by kernel_rfl
theorem ara:Tryz.f85.ntmps=72:=by kernel_rfl
theorem asE:Tryz.f86.ntmps=36:=by kernel_rfl
theorem asj:Tryz.f87.ntmps=150:=by kernel_rfl
theorem aoe:Tryz.f88.ntmps=27:=by kernel_rfl
theorem atq:Tryz.f89.ntmps=64:=by kernel_rfl
theorem nt9:Tryz.f9.ntmps=76:=by kernel_rfl
theorem apv:Tryz.f90.ntmps=46:=by kernel_rfl
theorem arL:Tryz.f91.ntmps=173:=by kernel_rfl
theorem atV:Tryz.f93.ntmps=102:=by kernel_rfl
theorem asu:Tryz.f94.ntmps=17:=by kernel_rfl
theorem apu:Tryz.f95.ntmps=45:=by kernel_rfl
theorem atU:Tryz.f96.ntmps=65:=by kernel_rfl
theorem arE:Tryz.f97.ntmps=24:=by kernel_rfl
theorem aq9:Tryz.f98.ntmps=28:=by kernel_rfl
theorem ar7:Tryz.f99.ntmps=24:=by kernel_rfl
theorem Z9:nM Tryz.prog 112=true:=by kernel_rfl
theorem Do:nM Tryz.prog 134=true:=by kernel_rfl
theorem Rm:nM Tryz.prog 146=true:=by kernel_rfl
theorem If:nM Tryz.prog 157=true:=by kernel_rfl
theorem ahE:nM Tryz.prog 22=true:=by kernel_rfl
theorem PI:nM Tryz.prog 23=true:=by kernel_rfl
theorem aaF:nM Tryz.prog 234=true:=by kernel_rfl
theorem kl:nM Tryz.prog 24=true:=by kernel_rfl
theorem GU:nM Tryz.prog 25=true:=by kernel_rfl
theorem acA:nM Tryz.prog 275=true:=by kernel_rfl
theorem abZ:nM Tryz.prog 340=true:=by kernel_rfl
theorem abw:nM Tryz.prog 345=true:=by kernel_rfl
theorem adS:nM Tryz.prog 351=true:=by kernel_rfl
theorem yV:nM Tryz.prog 36=true:=by kernel_rfl
theorem Z3:nM Tryz.prog 369=true:=by kernel_rfl
theorem Pe:nM Tryz.prog 39=true:=by kernel_rfl
theorem Ym:nM Tryz.prog 40=true:=by kernel_rfl
theorem F0:nM Tryz.prog 43=true:=by kernel_rfl
theorem Ke:nM Tryz.prog 58=true:=by kernel_rfl
theorem Ud:nM Tryz.prog 65=true:=by kernel_rfl
theorem ZZ:nM Tryz.prog 68=true:=by kernel_rfl
theorem al1:nM Tryz.prog 72=true:=by kernel_rfl
theorem Re:nM Tryz.prog 76=true:=by kernel_rfl
theorem RK:nM Tryz.prog 77=true:=by kernel_rfl
theorem ajW:nM Tryz.prog 80=true:=by kernel_rfl
theorem K1:nM Tryz.prog 93=true:=by kernel_rfl
theorem K6:nM Tryz.prog 99=true:=by kernel_rfl
theorem aeQ:fB Tryz.prog 112=some (116,2,[(.string ⟨#[]⟩),(.string ⟨#[]⟩)]):=by kernel_rfl
theorem DC:fB Tryz.prog 134=some (5,1,[(.int .u8 (0))]):=by kernel_rfl
theorem Q4:fB Tryz.prog 146=some (199,3,[(.int .i64 (0)),(.string ⟨#[]⟩),(.int .i64 (0))]):=by kernel_rfl
theorem Iv:fB Tryz.prog 157=some (29,3,[(.int .i64 (0)),(.int .i64 (0)),(.string ⟨#[]⟩)]):=by kernel_rfl
theorem akt:fB Tryz.prog 22=some (52,14,[(.string ⟨#[]⟩),(.slice none 0 0),(.bool false),(.int .i64 (0)),(.int .i64 (0)),(.int .i64 (0)),(.int .i64 (0)),(.int .i64 (0)),(.string ⟨#[]⟩),(.int .i64 (0)),(.slice none 0 0),(.slice none 0 0),(.slice none 0 0),(.slice none 0 0)]):=by kernel_rfl
theorem RH:fB Tryz.prog 23=some (79,21,[(.bool false),(.bool false),(.slice none 0 0),(.slice none 0 0),(.bool false),(.bool false),(.int .i64 (0)),(.int .i64 (0)),(.int .i64 (0)),(.string ⟨#[]⟩),(.string ⟨#[]⟩),(.string ⟨#[]⟩),(.slice none 0 0),(.int .i64 (0)),(.int .i64 (0)),(.int .i64 (0)),(.string ⟨#[]⟩),(.string ⟨#[]⟩),(.string ⟨#[]⟩),(.slice none 0 0),(.slice none 0 0)]):=by kernel_rfl
theorem abh:fB Tryz.prog 234=some (93,1,[(.slice none 0 0)]):=by kernel_rfl
theorem kB:fB Tryz.prog 24=some (3,1,[(.int .i64 (0))]):=by kernel_rfl
theorem EP:fB Tryz.prog 25=some (31,7,[(.int .i64 (0)),(.int .i64 (0)),(.int .i64 (0)),(.string ⟨#[]⟩),(.string ⟨#[]⟩),(.string ⟨#[]⟩),(.slice none 0 0)]):=by kernel_rfl
theorem aea:fB Tryz.prog 275=some (278,3,[(.slice none 0 0),(.int .i64 (0)),(.bool false)]):=by kernel_rfl
theorem aa2:fB Tryz.prog 340=some (32,1,[(.int .i64 (0))]):=by kernel_rfl
theorem acz:fB Tryz.prog 345=some (21,1,[(.int .i32 (0))]):=by kernel_rfl
theorem abR:fB Tryz.prog 351=some (353,2,[(.slice none 0 0),(.slice none 0 0)]):=by kernel_rfl
theorem yL:fB Tryz.prog 36=some (38,6,[(.int .i64 (0)),(.int .i64 (0)),(.int .i64 (0)),(.string ⟨#[]⟩),(.int .i64 (0)),(.slice none 0 0)]):=by kernel_rfl
theorem ado:fB Tryz.prog 369=some (325,1,[.nilFunc]):=by kernel_rfl
theorem PT:fB Tryz.prog 39=some (119,7,[(.int .i64 (0)),(.int .i64 (0)),(.int .i64 (0)),(.int .i64 (0)),(.string ⟨#[]⟩),(.int .i64 (0)),(.slice none 0 0)]):=by kernel_rfl
theorem YU:fB Tryz.prog 40=some (42,11,[(.int .i64 (0)),(.int .i64 (0)),(.int .i64 (0)),(.int .i64 (0)),(.int .i64 (0)),(.string ⟨#[]⟩),(.int .i64 (0)),(.slice none 0 0),(.slice none 0 0),(.slice none 0 0),(.slice none 0 0)]):=by kernel_rfl
theorem GA:fB Tryz.prog 43=some (48,2,[(.string ⟨#[]⟩),(.int .i64 (0))]):=by kernel_rfl
theorem Kk:fB Tryz.prog 58=some (24,1,[(.slice none 0 0)]):=by kernel_rfl
theorem OU:fB Tryz.prog 65=some (157,1,[(.slice none 0 0)]):=by kernel_rfl
theorem Zk:fB Tryz.prog 68=some (67,16,[(.int .i64 (0)),(.string ⟨#[]⟩),(.slice none 0 0),(.slice none 0 0),(.slice none 0 0),(.slice none 0 0),(.int .i64 (0)),(.slice none 0 0),(.bool false),(.int .i64 (0)),(.int .i64 (0)),(.int .i64 (0)),(.string ⟨#[]⟩),(.string ⟨#[]⟩),(.string ⟨#[]⟩),(.slice none 0 0)]):=by kernel_rfl
theorem ag0:fB Tryz.prog 72=some (80,1,[(.slice none 0 0)]):=by kernel_rfl
theorem PV:fB Tryz.prog 76=some (75,10,[(.int .i64 (0)),(.string ⟨#[]⟩),(.string ⟨#[]⟩),(.int .i64 (0)),(.int .i64 (0)),(.int .i64 (0)),(.string ⟨#[]⟩),(.string ⟨#[]⟩),(.string ⟨#[]⟩),(.slice none 0 0)]):=by kernel_rfl
theorem Ql:fB Tryz.prog 77=some (161,8,[(.int .i64 (0)),(.int .i64 (0)),(.int .i64 (0)),(.string ⟨#[]⟩),(.string ⟨#[]⟩),(.string ⟨#[]⟩),(.slice none 0 0),(.string ⟨#[]⟩)]):=by kernel_rfl
theorem agp:fB Tryz.prog 80=some (159,2,[(.slice none 0 0),(.int .i64 (0))]):=by kernel_rfl
theorem Kx:fB Tryz.prog 93=some (9,1,[(.string ⟨#[]⟩)]):=by kernel_rfl
theorem KC:fB Tryz.prog 99=some (104,2,[(.string ⟨#[]⟩),(.string ⟨#[]⟩)]):=by kernel_rfl
theorem alP:Tryz.f10.results.toList=[.cell 4 42,.cell 5 43,.cell 6 32]:=by kernel_rfl
theorem agu:Tryz.f100.results.toList=[.tmp 2]:=by kernel_rfl
theorem agS:Tryz.f101.results.toList=[.cell 2 31]:=by kernel_rfl
theorem ahv:Tryz.f105.results.toList=[.cell 4 42,.tmp 5]:=by kernel_rfl
theorem ajf:Tryz.f106.results.toList=[.tmp 4]:=by kernel_rfl
theorem alI:Tryz.f107.results.toList=[.tmp 2]:=by kernel_rfl
theorem anE:Tryz.f108.results.toList=[.tmp 4]:=by kernel_rfl
theorem ank:Tryz.f109.results.toList=[.tmp 4]:=by kernel_rfl
theorem ahU:Tryz.f110.results.toList=[.tmp 2]:=by kernel_rfl
theorem akh:Tryz.f119.results.toList=[.cell 2 29]:=by kernel_rfl
theorem aqC:Tryz.f12.results.toList=[.tmp 4]:=by kernel_rfl
theorem aji:Tryz.f120.results.toList=[.tmp 6]:=by kernel_rfl
theorem agU:Tryz.f121.results.toList=[.tmp 4]:=by kernel_rfl
theorem agP:Tryz.f122.results.toList=[.tmp 4,.tmp 5]:=by kernel_rfl
theorem ajx:Tryz.f123.results.toList=[.tmp 4,.tmp 5]:=by kernel_rfl
theorem agF:Tryz.f124.results.toList=[.tmp 4]:=by kernel_rfl
theorem aiI:Tryz.f125.results.toList=[.tmp 2]:=by kernel_rfl
theorem amN:Tryz.f126.results.toList=[.tmp 2]:=by kernel_rfl
theorem akM:Tryz.f127.results.toList=[.tmp 2]:=by kernel_rfl
theorem alR:Tryz.f128.results.toList=[.tmp 2]:=by kernel_rfl
theorem YE:Tryz.f129.results.toList=[.tmp 4]:=by kernel_rfl
theorem ahn:Tryz.f130.results.toList=[.tmp 4,.tmp 5]:=by kernel_rfl
theorem ajE:Tryz.f131.results.toList=[]:=by kernel_rfl
theorem agD:Tryz.f132.results.toList=[]:=by kernel_rfl
theorem agl:Tryz.f136.results.toList=[.tmp 2,.tmp 3]:=by kernel_rfl
theorem amU:Tryz.f138.results.toList=[.tmp 2]:=by kernel_rfl
theorem amD:Tryz.f139.results.toList=[.tmp 4]:=by kernel_rfl
theorem aoH:Tryz.f140.results.toList=[.tmp 2]:=by kernel_rfl
theorem am1:Tryz.f141.results.toList=[.tmp 2]:=by kernel_rfl
theorem alL:Tryz.f142.results.toList=[.tmp 4]:=by kernel_rfl
theorem ajq:Tryz.f143.results.toList=[.tmp 4]:=by kernel_rfl
theorem ain:Tryz.f144.results.toList=[.tmp 2]:=by kernel_rfl
theorem afU:Tryz.f145.results.toList=[.cell 2 79]:=by kernel_rfl
theorem agR:Tryz.f146.results.toList=[.tmp 2]:=by kernel_rfl
theorem afS:Tryz.f147.results.toList=[.tmp 6]:=by kernel_rfl
theorem ama:Tryz.f148.results.toList=[.tmp 2]:=by kernel_rfl
theorem afE:Tryz.f149.results.toList=[.tmp 6]:=by kernel_rfl
theorem auc:Tryz.f15.results.toList=[.tmp 4]:=by kernel_rfl
theorem aoT:Tryz.f150.results.toList=[.cell 1 29]:=by kernel_rfl
theorem agj:Tryz.f151.results.toList=[.cell 2 29,.tmp 3]:=by kernel_rfl
theorem ahm:Tryz.f152.results.toList=[.tmp 2]:=by kernel_rfl
theorem ag8:Tryz.f153.results.toList=[.cell 4 31]:=by kernel_rfl
theorem arm:Tryz.f16.results.toList=[.tmp 0]:=by kernel_rfl
theorem asc:Tryz.f17.results.toList=[.tmp 4,.tmp 5]:=by kernel_rfl
theorem ahi:Tryz.f170.results.toList=[.tmp 4]:=by kernel_rfl
theorem aii:Tryz.f173.results.toList=[.cell 0 29]:=by kernel_rfl
theorem af4:Tryz.f174.results.toList=[.tmp 6,.tmp 7]:=by kernel_rfl
theorem anC:Tryz.f175.results.toList=[.tmp 2]:=by kernel_rfl
theorem aoq:Tryz.f176.results.toList=[.tmp 6]:=by kernel_rfl
theorem arB:Tryz.f18.results.toList=[.tmp 2]:=by kernel_rfl
theorem aoo:Tryz.f180.results.toList=[.tmp 0]:=by kernel_rfl
theorem aiY:Tryz.f182.results.toList=[.tmp 4]:=by kernel_rfl
theorem akN:Tryz.f183.results.toList=[.tmp 0]:=by kernel_rfl
theorem akq:Tryz.f184.results.toList=[.tmp 6]:=by kernel_rfl
theorem ajS:Tryz.f185.results.toList=[.cell 2 161]:=by kernel_rfl
theorem aiW:Tryz.f186.results.toList=[.cell 4 75]:=by kernel_rfl
theorem akf:Tryz.f187.results.toList=[.tmp 2]:=by kernel_rfl
theorem ahj:Tryz.f189.results.toList=[]:=by kernel_rfl
theorem asN:Tryz.f19.results.toList=[.tmp 2,.cell 3 62]:=by kernel_rfl
theorem ahH:Tryz.f190.results.toList=[.cell 2 31]:=by kernel_rfl
theorem afB:Tryz.f191.results.toList=[.cell 4 31]:=by kernel_rfl
theorem ahf:Tryz.f192.results.toList=[.tmp 4]:=by kernel_rfl
theorem aiG:Tryz.f193.results.toList=[.cell 6 31]:=by kernel_rfl
theorem afs:Tryz.f20.results.toList=[.cell 2 68,.cell 3 62]:=by kernel_rfl
theorem aqE:Tryz.f21.results.toList=[.cell 2 42]:=by kernel_rfl
theorem ah0:Tryz.f226.results.toList=[.tmp 2]:=by kernel_rfl
theorem anb:Tryz.f227.results.toList=[.tmp 4,.tmp 5]:=by kernel_rfl
theorem akb:Tryz.f228.results.toList=[.tmp 2]:=by kernel_rfl
theorem aks:Tryz.f229.results.toList=[.tmp 2]:=by kernel_rfl
theorem aoS:Tryz.f230.results.toList=[.tmp 2]:=by kernel_rfl
theorem aoP:Tryz.f231.results.toList=[.tmp 2]:=by kernel_rfl
theorem aj8:Tryz.f232.results.toList=[.tmp 4]:=by kernel_rfl
theorem anU:Tryz.f233.results.toList=[.tmp 2]:=by kernel_rfl
theorem aru:Tryz.f27.results.toList=[.tmp 2]:=by kernel_rfl
theorem ajG:Tryz.f271.results.toList=[.tmp 4]:=by kernel_rfl
theorem ajb:Tryz.f272.results.toList=[.tmp 4,.tmp 5]:=by kernel_rfl
theorem ajs:Tryz.f273.results.toList=[.tmp 1]:=by kernel_rfl
theorem anM:Tryz.f274.results.toList=[.tmp 1]:=by kernel_rfl
theorem aqI:Tryz.f28.results.toList=[]:=by kernel_rfl
theorem ar1:Tryz.f29.results.toList=[.cell 4 42,.tmp 5]:=by kernel_rfl
theorem arR:Tryz.f30.results.toList=[.cell 6 42]:=by kernel_rfl
theorem al8:Tryz.f31.results.toList=[.tmp 4]:=by kernel_rfl
theorem akQ:Tryz.f37.results.toList=[.cell 4 38]:=by kernel_rfl
theorem aq6:Tryz.f38.results.toList=[.cell 2 27,.tmp 3]:=by kernel_rfl
theorem asq:Tryz.f39.results.toList=[.cell 4 52]:=by kernel_rfl
theorem asy:Tryz.f40.results.toList=[.tmp 6,.tmp 7]:=by kernel_rfl
theorem asA:Tryz.f41.results.toList=[.tmp 2]:=by kernel_rfl
theorem aq5:Tryz.f42.results.toList=[.cell 2 62]:=by kernel_rfl
theorem asX:Tryz.f43.results.toList=[]:=by kernel_rfl
theorem as1:Tryz.f44.results.toList=[.tmp 2]:=by kernel_rfl
theorem ap5:Tryz.f46.results.toList=[]:=by kernel_rfl
theorem arN:Tryz.f47.results.toList=[.tmp 2]:=by kernel_rfl
theorem aqU:Tryz.f48.results.toList=[]:=by kernel_rfl
theorem arG:Tryz.f49.results.toList=[.tmp 2]:=by kernel_rfl
theorem rs5:Tryz.f5.results.toList=[.tmp 4]:=by kernel_rfl
theorem ati:Tryz.f50.results.toList=[.cell 2 67]:=by kernel_rfl
theorem aqn:Tryz.f51.results.toList=[]:=by kernel_rfl
theorem asJ:Tryz.f52.results.toList=[.cell 3 38]:=by kernel_rfl
theorem apU:Tryz.f61.results.toList=[.cell 4 42,.tmp 5]:=by kernel_rfl
theorem asR:Tryz.f62.results.toList=[.cell 4 42]:=by kernel_rfl
theorem aqf:Tryz.f63.results.toList=[.tmp 4]:=by kernel_rfl
theorem as4:Tryz.f64.results.toList=[.tmp 2]:=by kernel_rfl
theorem auz:Tryz.f65.results.toList=[.tmp 2]:=by kernel_rfl
theorem arn:Tryz.f66.results.toList=[]:=by kernel_rfl
theorem atL:Tryz.f67.results.toList=[.tmp 4]:=by kernel_rfl
theorem asm:Tryz.f68.results.toList=[.cell 2 42]:=by kernel_rfl
theorem as2:Tryz.f76.results.toList=[.tmp 4]:=by kernel_rfl
theorem atk:Tryz.f77.results.toList=[.tmp 3]:=by kernel_rfl
theorem ark:Tryz.f78.results.toList=[.tmp 4]:=by kernel_rfl
theorem ann:Tryz.f79.results.toList=[.cell 4 38]:=by kernel_rfl
theorem aqW:Tryz.f80.results.toList=[.tmp 4]:=by kernel_rfl
theorem ar2:Tryz.f81.results.toList=[.tmp 2]:=by kernel_rfl
theorem atN:Tryz.f82.results.toList=[.tmp 4]:=by kernel_rfl
theorem ath:Tryz.f83.results.toList=[.tmp 4,.tmp 5]:=by kernel_rfl
theorem apZ:Tryz.f84.results.toList=[.tmp 4,.tmp 5]:=by kernel_rfl
theorem aqF:Tryz.f85.results.toList=[.tmp 4,.tmp 5]:=by kernel_rfl
theorem asO:Tryz.f86.results.toList=[.tmp 2]:=by kernel_rfl
theorem aqA:Tryz.f87.results.toList=[.tmp 2]:=by kernel_rfl
theorem ai4:Tryz.f88.results.toList=[]:=by kernel_rfl
theorem asp:Tryz.f89.results.toList=[]:=by kernel_rfl
theorem rs9:Tryz.f9.results.toList=[.tmp 2]:=by kernel_rfl
theorem atW:Tryz.f90.results.toList=[]:=by kernel_rfl
theorem asB:Tryz.f91.results.toList=[]:=by kernel_rfl
theorem ap1:Tryz.f93.results.toList=[.cell 4 199,.tmp 5]:=by kernel_rfl
theorem asW:Tryz.f94.results.toList=[.tmp 4]:=by kernel_rfl
theorem ars:Tryz.f95.results.toList=[.tmp 2]:=by kernel_rfl
theorem apz:Tryz.f96.results.toList=[.cell 2 27]:=by kernel_rfl
theorem at8:Tryz.f97.results.toList=[.tmp 6]:=by kernel_rfl
theorem aqt:Tryz.f98.results.toList=[.cell 2 48]:=by kernel_rfl
theorem atJ:Tryz.f99.results.toList=[.tmp 6]:=by kernel_rfl
theorem anf:tk Tryz.prog 100=some (false,1,(.pointer none)):=by kernel_rfl
theorem aoz:tk Tryz.prog 104=some (true,2,(.agg #[(.string ⟨#[]⟩),(.string ⟨#[]⟩)])):=by kernel_rfl
theorem agE:tk Tryz.prog 112=some (false,1,(.slice none 0 0)):=by kernel_rfl
theorem aiJ:tk Tryz.prog 116=some (true,2,(.agg #[(.string ⟨#[]⟩),(.string ⟨#[]⟩)])):=by kernel_rfl
theorem ahG:tk Tryz.prog 119=some (true,7,(.agg #[(.int .i64 (0)),(.int .i64 (0)),(.int .i64 (0)),(.int .i64 (0)),(.string ⟨#[]⟩),(.int .i64 (0)),(.slice none 0 0)])):=by kernel_rfl
theorem ajP:tk Tryz.prog 121=some (false,1,(.pointer none)):=by kernel_rfl
theorem aiX:tk Tryz.prog 133=some (false,1,(.pointer none)):=by kernel_rfl
theorem afN:tk Tryz.prog 134=some (false,1,(.slice none 0 0)):=by kernel_rfl
theorem akd:tk Tryz.prog 136=some (true,2,(.agg #[(.pointer none),(.slice none 0 0)])):=by kernel_rfl
theorem ani:tk Tryz.prog 144=some (true,2,(.agg #[(.int .i64 (0)),(.int .i64 (0))])):=by kernel_rfl
theorem aiA:tk Tryz.prog 145=some (false,1,(.pointer none)):=by kernel_rfl
theorem aor:tk Tryz.prog 146=some (false,1,(.slice none 0 0)):=by kernel_rfl
theorem agX:tk Tryz.prog 153=some (false,1,.nilFunc):=by kernel_rfl
theorem akx:tk Tryz.prog 157=some (false,1,(.slice none 0 0)):=by kernel_rfl
theorem ake:tk Tryz.prog 159=some (true,2,(.agg #[(.slice none 0 0),(.int .i64 (0))])):=by kernel_rfl
theorem alv:tk Tryz.prog 161=some (true,8,(.agg #[(.int .i64 (0)),(.int .i64 (0)),(.int .i64 (0)),(.string ⟨#[]⟩),(.string ⟨#[]⟩),(.string ⟨#[]⟩),(.slice none 0 0),(.string ⟨#[]⟩)])):=by kernel_rfl
theorem ajK:tk Tryz.prog 199=some (true,3,(.agg #[(.int .i64 (0)),(.string ⟨#[]⟩),(.int .i64 (0))])):=by kernel_rfl
theorem tk2:tk Tryz.prog 2=some (false,1,(.int .i64 (0))):=by kernel_rfl
theorem aqr:tk Tryz.prog 21=some (false,1,(.int .i32 (0))):=by kernel_rfl
theorem ahq:tk Tryz.prog 211=some (false,1,(.pointer none)):=by kernel_rfl
theorem ari:tk Tryz.prog 22=some (false,1,(.slice none 0 0)):=by kernel_rfl
theorem ata:tk Tryz.prog 23=some (false,1,(.slice none 0 0)):=by kernel_rfl
theorem aqa:tk Tryz.prog 24=some (false,1,(.slice none 0 0)):=by kernel_rfl
theorem arK:tk Tryz.prog 25=some (false,1,(.slice none 0 0)):=by kernel_rfl
theorem aoM:tk Tryz.prog 268=some (false,1,(.pointer none)):=by kernel_rfl
theorem apw:tk Tryz.prog 27=some (true,4,(.agg #[(.slice none 0 0),(.slice none 0 0),(.slice none 0 0),(.int .i64 (0))])):=by kernel_rfl
theorem ag6:tk Tryz.prog 278=some (true,3,(.agg #[(.slice none 0 0),(.int .i64 (0)),(.bool false)])):=by kernel_rfl
theorem aur:tk Tryz.prog 29=some (true,3,(.agg #[(.int .i64 (0)),(.int .i64 (0)),(.string ⟨#[]⟩)])):=by kernel_rfl
theorem tk3:tk Tryz.prog 3=some (false,1,(.int .i64 (0))):=by kernel_rfl
theorem ahI:tk Tryz.prog 303=some (false,1,(.slice none 0 0)):=by kernel_rfl
theorem apB:tk Tryz.prog 31=some (true,7,(.agg #[(.int .i64 (0)),(.int .i64 (0)),(.int .i64 (0)),(.string ⟨#[]⟩),(.string ⟨#[]⟩),(.string ⟨#[]⟩),(.slice none 0 0)])):=by kernel_rfl
theorem auE:tk Tryz.prog 32=some (false,1,(.int .i64 (0))):=by kernel_rfl
theorem akD:tk Tryz.prog 325=some (false,1,.nilFunc):=by kernel_rfl
theorem aoC:tk Tryz.prog 353=some (true,2,(.agg #[(.slice none 0 0),(.slice none 0 0)])):=by kernel_rfl
theorem asQ:tk Tryz.prog 36=some (false,1,(.slice none 0 0)):=by kernel_rfl
theorem aqz:tk Tryz.prog 38=some (true,6,(.agg #[(.int .i64 (0)),(.int .i64 (0)),(.int .i64 (0)),(.string ⟨#[]⟩),(.int .i64 (0)),(.slice none 0 0)])):=by kernel_rfl
theorem al4:tk Tryz.prog 388=some (true,2,(.agg #[(.int .i64 (0)),(.int .i64 (0))])):=by kernel_rfl
theorem aug:tk Tryz.prog 39=some (false,1,(.slice none 0 0)):=by kernel_rfl
theorem tk4:tk Tryz.prog 4=some (false,1,(.bool false)):=by kernel_rfl
theorem asD:tk Tryz.prog 40=some (false,1,(.slice none 0 0)):=by kernel_rfl
theorem aq1:tk Tryz.prog 42=some (true,11,(.agg #[(.int .i64 (0)),(.int .i64 (0)),(.int .i64 (0)),(.int .i64 (0)),(.int .i64 (0)),(.string ⟨#[]⟩),(.int .i64 (0)),(.slice none 0 0),(.slice none 0 0),(.slice none 0 0),(.slice none 0 0)])):=by kernel_rfl
theorem apF:tk Tryz.prog 43=some (false,1,(.slice none 0 0)):=by kernel_rfl
theorem aut:tk Tryz.prog 48=some (true,2,(.agg #[(.string ⟨#[]⟩),(.int .i64 (0))])):=by kernel_rfl
theorem tk5:tk Tryz.prog 5=some (false,1,(.int .u8 (0))):=by kernel_rfl
theorem asG:tk Tryz.prog 52=some (true,14,(.agg #[(.string ⟨#[]⟩),(.slice none 0 0),(.bool false),(.int .i64 (0)),(.int .i64 (0)),(.int .i64 (0)),(.int .i64 (0)),(.int .i64 (0)),(.string ⟨#[]⟩),(.int .i64 (0)),(.slice none 0 0),(.slice none 0 0),(.slice none 0 0),(.slice none 0 0)])):=by kernel_rfl
theorem arX:tk Tryz.prog 58=some (false,1,(.slice none 0 0)):=by kernel_rfl
theorem apJ:tk Tryz.prog 62=some (true,2,(.agg #[(.int .i64 (0)),(.int .i64 (0))])):=by kernel_rfl
theorem apH:tk Tryz.prog 65=some (false,1,(.slice none 0 0)):=by kernel_rfl
theorem aqo:tk Tryz.prog 67=some (true,16,(.agg #[(.int .i64 (0)),(.string ⟨#[]⟩),(.slice none 0 0),(.slice none 0 0),(.slice none 0 0),(.slice none 0 0),(.int .i64 (0)),(.slice none 0 0),(.bool false),(.int .i64 (0)),(.int .i64 (0)),(.int .i64 (0)),(.string ⟨#[]⟩),(.string ⟨#[]⟩),(.string ⟨#[]⟩),(.slice none 0 0)])):=by kernel_rfl
theorem arJ:tk Tryz.prog 68=some (false,1,(.slice none 0 0)):=by kernel_rfl
theorem att:tk Tryz.prog 75=some (true,10,(.agg #[(.int .i64 (0)),(.string ⟨#[]⟩),(.string ⟨#[]⟩),(.int .i64 (0)),(.int .i64 (0)),(.int .i64 (0)),(.string ⟨#[]⟩),(.string ⟨#[]⟩),(.string ⟨#[]⟩),(.slice none 0 0)])):=by kernel_rfl
theorem atm:tk Tryz.prog 76=some (false,1,(.slice none 0 0)):=by kernel_rfl
theorem atg:tk Tryz.prog 77=some (false,1,(.slice none 0 0)):=by kernel_rfl
theorem apN:tk Tryz.prog 79=some (true,21,(.agg #[(.bool false),(.bool false),(.slice none 0 0),(.slice none 0 0),(.bool false),(.bool false),(.int .i64 (0)),(.int .i64 (0)),(.int .i64 (0)),(.string ⟨#[]⟩),(.string ⟨#[]⟩),(.string ⟨#[]⟩),(.slice none 0 0),(.int .i64 (0)),(.int .i64 (0)),(.int .i64 (0)),(.string ⟨#[]⟩),(.string ⟨#[]⟩),(.string ⟨#[]⟩),(.slice none 0 0),(.slice none 0 0)])):=by kernel_rfl
theorem atH:tk Tryz.prog 80=some (false,1,(.slice none 0 0)):=by kernel_rfl
theorem ase:tk Tryz.prog 89=some (true,1,(.agg #[(.int .i64 (0))])):=by kernel_rfl
theorem tk9:tk Tryz.prog 9=some (false,1,(.string ⟨#[]⟩)):=by kernel_rfl
theorem asn:tk Tryz.prog 93=some (false,1,(.slice none 0 0)):=by kernel_rfl
theorem atG:tk Tryz.prog 96=some (false,1,(.pointer none)):=by kernel_rfl
theorem aq3:tk Tryz.prog 98=some (false,1,(.pointer none)):=by kernel_rfl
theorem ask:tk Tryz.prog 99=some (false,1,(.slice none 0 0)):=by kernel_rfl
def dr3:List (Nat×Sched):=[(10,.take 0<| .take 1<| .take 2<| .take 4<| .take 5<| .take 6<| .take 3<| .take 7<| .take 8<| .done),(15,.take 0<| .take 1<| .take 2<| .take 3<| .eff 4 false (.take 5<| .take 6<| .take 7<| .eff 8 false (.eff 9 true (.take 10<| .done)<| .no)<| .no)<| .eff 8 false (.eff 4 true (.take 5<| .take 6<| .take 7<| .eff 9 true (.take 10<| .done)<| .no)<| .no)<| .no),(16,.take 0<| .take 1<| .take 2<| .take 3<| .eff 4 false (.take 5<| .take 6<| .take 7<| .eff 8 false (.eff 9 true (.take 10<| .done)<| .no)<| .no)<| .eff 8 false (.eff 4 true (.take 5<| .take 6<| .take 7<| .eff 9 true (.take 10<| .done)<| .no)<| .no)<| .no)]
def dr4:List (Nat×Sched):=[(8,.take 0<| .take 2<| .eff 1 false (.eff 3 true (.take 4<| .take 5<| .take 6<| .take 7<| .take 8<| .done)<| .no)<| .no),(14,.take 0<| .take 1<| .take 2<| .take 3<| .take 5<| .take 6<| .take 7<| .take 4<| .take 8<| .take 9<| .done)]
def dr5:List (Nat×Sched):=[(13,.take 0<| .take 1<| .take 2<| .take 3<| .take 4<| .take 5<| .take 6<| .take 7<| .take 9<| .eff 8 false (.eff 10 false (.eff 11 false (.take 12<| .take 13<| .take 14<| .done)<| .no)<| .no)<| .no)]
def dr6:List (Nat×Sched):=[(14,.take 1<| .take 3<| .take 4<| .take 5<| .take 6<| .eff 0 false (.eff 2 false (.eff 7 false (.eff 8 false (.take 9<| .done)<| .no)<| .no)<| .eff 7 false (.eff 2 false (.eff 8 false (.take 9<| .done)<| .no)<| .no)<| .no)<| .eff 7 false (.eff 0 false (.eff 2 false (.eff 8 false (.take 9<| .done)<| .no)<| .no)<| .no)<| .no),(19,.take 0<| .take 3<| .take 2<| .eff 1 false (.eff 4 true (.take 5<| .take 6<| .take 7<| .take 8<| .take 9<| .done)<| .no)<| .no),(20,.take 0<| .take 3<| .take 2<| .eff 1 false (.eff 4 true (.take 5<| .take 6<| .take 7<| .take 8<| .take 9<| .done)<| .no)<| .no)]
def dr7:List (Nat×Sched):=[]
def dr8:List (Nat×Sched):=[]
def dr9:List (Nat×Sched):=[(18,.take 0<| .take 1<| .take 2<| .take 4<| .take 6<| .take 3<| .take 5<| .take 7<| .take 8<| .take 9<| .take 10<| .done)]
def ajm:List (Nat×Sched):=[(10,.take 0<| .take 2<| .take 3<| .take 1<| .take 4<| .take 5<| .take 6<| .take 7<| .eff 8 false (.eff 9 true (.done)<| .no)<| .no),(19,.take 0<| .take 2<| .take 3<| .take 1<| .take 4<| .take 6<| .eff 5 false (.eff 7 false (.take 8<| .eff 9 true (.done)<| .no)<| .no)<| .eff 7 false (.eff 5 false (.take 8<| .eff 9 true (.done)<| .no)<| .no)<| .no),(20,.take 0<| .take 2<| .eff 1 false (.eff 3 true (.take 4<| .take 5<| .take 6<| .take 7<| .eff 8 true (.done)<| .no)<| .no)<| .no),(22,.take 0<| .take 1<| .eff 2 false (.eff 3 false (.eff 4 true (.done)<| .no)<| .no)<| .no),(26,.take 1<| .take 2<| .take 3<| .take 5<| .take 0<| .take 4<| .take 6<| .eff 7 false (.eff 8 false (.eff 9 true (.done)<| .no)<| .no)<| .no),(28,.take 0<| .take 1<| .eff 2 false (.eff 3 true (.eff 4 true (.done)<| .no)<| .no)<| .no)]
def arP:List (Nat×Sched):=[(11,.take 0<| .take 3<| .eff 1 false (.eff 2 false (.eff 4 false (.eff 5 false (.eff 6 false (.eff 7 false (.eff 8 false (.eff 9 false (.eff 10 true (.done)<| .no)<| .no)<| .no)<| .no)<| .no)<| .no)<| .no)<| .eff 4 false (.eff 2 false (.eff 5 false (.eff 6 false (.eff 7 false (.eff 8 false (.eff 9 false (.eff 10 true (.done)<| .no)<| .no)<| .no)<| .no)<| .no)<| .no)<| .no)<| .no)<| .eff 4 false (.eff 1 false (.eff 2 false (.eff 5 false (.eff 6 false (.eff 7 false (.eff 8 false (.eff 9 false (.eff 10 true (.done)<| .no)<| .no)<| .no)<| .no)<| .no)<| .no)<| .no)<| .no)<| .no),(31,.take 0<| .take 2<| .take 3<| .take 1<| .take 4<| .eff 5 false (.eff 6 false (.eff 7 false (.take 8<| .eff 9 true (.done)<| .no)<| .no)<| .no)<| .no),(35,.take 0<| .take 1<| .take 2<| .take 3<| .take 4<| .eff 5 false (.take 6<| .take 7<| .done)<| .no),(36,.take 0<| .take 2<| .eff 1 false (.eff 3 true (.take 4<| .take 5<| .take 6<| .take 7<| .take 8<| .done)<| .no)<| .no)]
def ajp:List (Nat×Sched):=[(11,.take 0<| .take 2<| .take 5<| .take 7<| .take 1<| .take 3<| .take 4<| .take 6<| .take 8<| .take 9<| .eff 10 false (.take 11<| .done)<| .no),(20,.take 0<| .take 2<| .take 6<| .take 8<| .take 1<| .take 3<| .take 4<| .take 5<| .take 7<| .take 9<| .take 10<| .take 11<| .take 12<| .take 13<| .take 14<| .take 16<| .take 15<| .take 17<| .take 18<| .take 19<| .take 20<| .take 21<| .take 22<| .take 24<| .take 28<| .take 30<| .take 23<| .take 25<| .take 26<| .take 27<| .take 29<| .take 31<| .take 32<| .take 33<| .eff 34 false (.take 35<| .take 36<| .take 37<| .done)<| .no),(26,.take 0<| .take 2<| .take 5<| .take 7<| .take 1<| .take 3<| .take 4<| .take 6<| .take 8<| .take 9<| .eff 10 false (.take 11<| .done)<| .no)]
def aqH:List (Nat×Sched):=[(6,.take 0<| .take 1<| .take 2<| .take 3<| .take 5<| .take 7<| .take 4<| .take 6<| .take 8<| .take 9<| .eff 10 false (.eff 11 false (.take 12<| .take 13<| .eff 14 true (.done)<| .no)<| .no)<| .no)]
def arO:List (Nat×Sched):=[(6,.take 0<| .take 1<| .take 2<| .take 3<| .take 5<| .take 7<| .take 4<| .take 6<| .take 8<| .take 9<| .eff 10 false (.eff 11 false (.take 12<| .take 13<| .eff 14 true (.done)<| .no)<| .no)<| .no),(10,.take 0<| .take 1<| .take 2<| .take 3<| .take 4<| .eff 5 false (.take 6<| .done)<| .no)]
def amL:List (Nat×Sched):=[(6,.take 0<| .take 2<| .take 5<| .take 7<| .take 1<| .take 3<| .take 4<| .take 6<| .take 8<| .take 9<| .eff 10 false (.take 11<| .done)<| .no)]
def akV:List (Nat×Sched):=[(2,.take 3<| .eff 0 false (.eff 1 false (.eff 2 false (.eff 4 false (.take 5<| .take 6<| .take 7<| .take 8<| .eff 9 false (.eff 10 true (.take 11<| .take 12<| .done)<| .no)<| .no)<| .eff 9 false (.eff 4 true (.take 5<| .take 6<| .take 7<| .take 8<| .eff 10 true (.take 11<| .take 12<| .done)<| .no)<| .no)<| .no)<| .eff 9 false (.eff 2 false (.eff 4 true (.take 5<| .take 6<| .take 7<| .take 8<| .eff 10 true (.take 11<| .take 12<| .done)<| .no)<| .no)<| .no)<| .no)<| .eff 9 false (.eff 1 false (.eff 2 false (.eff 4 true (.take 5<| .take 6<| .take 7<| .take 8<| .eff 10 true (.take 11<| .take 12<| .done)<| .no)<| .no)<| .no)<| .no)<| .no)<| .eff 9 false (.eff 0 false (.eff 1 false (.eff 2 false (.eff 4 true (.take 5<| .take 6<| .take 7<| .take 8<| .eff 10 true (.take 11<| .take 12<| .done)<| .no)<| .no)<| .no)<| .no)<| .no)<| .no)]
def alm:List (Nat×Sched):=[]
def aos:List (Nat×Sched):=[]
def ah7:List (Nat×Sched):=[(3,.take 1<| .take 0<| .eff 2 true (.done)<| .no)]
def aic:List (Nat×Sched):=[(6,.take 1<| .take 0<| .eff 2 false (.eff 3 false (.eff 4 true (.eff 5 true (.done)<| .no)<| .no)<| .no)<| .no),(10,.take 0<| .take 1<| .take 2<| .eff 3 false (.eff 4 true (.done)<| .no)<| .no),(11,.take 0<| .take 1<| .eff 2 false (.eff 3 true (.done)<| .no)<| .no)]
def aoA:List (Nat×Sched):=[(8,.take 0<| .take 1<| .take 2<| .take 3<| .eff 4 false (.eff 5 false (.eff 6 false (.take 7<| .eff 8 true (.done)<| .no)<| .no)<| .no)<| .no),(13,.take 0<| .take 2<| .take 5<| .take 1<| .take 3<| .take 4<| .take 6<| .eff 7 false (.take 8<| .eff 9 false (.eff 10 false (.take 11<| .eff 12 true (.done)<| .no)<| .no)<| .no)<| .no),(18,.take 0<| .take 1<| .take 2<| .eff 3 false (.eff 4 false (.eff 5 false (.take 6<| .eff 7 true (.done)<| .no)<| .no)<| .no)<| .no)]
def asx:List (Nat×Sched):=[]
def atj:List (Nat×Sched):=[]
def arw:List (Nat×Sched):=[(6,.take 0<| .take 1<| .take 2<| .take 3<| .take 5<| .take 6<| .take 7<| .take 8<| .take 4<| .take 9<| .take 10<| .take 11<| .take 12<| .take 13<| .take 14<| .take 15<| .take 18<| .take 19<| .take 20<| .take 21<| .take 16<| .take 17<| .take 22<| .take 23<| .take 24<| .take 25<| .done),(11,.take 0<| .take 1<| .take 2<| .take 3<| .take 5<| .take 8<| .take 9<| .take 10<| .take 11<| .take 13<| .take 4<| .take 6<| .take 7<| .take 12<| .take 14<| .take 15<| .take 16<| .done)]
def aqq:List (Nat×Sched):=[]
def arp:List (Nat×Sched):=[]
def akm:List (Nat×Sched):=[]
def UJ:List (Nat×Sched):=[(7,.take 0<| .take 1<| .take 2<| .eff 3 false (.eff 4 false (.eff 5 true (.done)<| .no)<| .no)<| .no)]
def an7:List (Nat×Sched):=[(3,.take 0<| .take 1<| .take 2<| .take 3<| .take 5<| .eff 4 false (.eff 6 true (.eff 7 true (.done)<| .no)<| .no)<| .no),(29,.take 0<| .take 2<| .take 3<| .take 4<| .take 5<| .take 7<| .take 1<| .take 6<| .take 8<| .take 9<| .eff 10 false (.eff 11 false (.eff 12 false (.take 13<| .eff 14 true (.done)<| .no)<| .no)<| .no)<| .no)]
def ahe:List (Nat×Sched):=[(7,.take 0<| .take 2<| .eff 1 false (.eff 3 true (.eff 4 true (.eff 5 true (.done)<| .no)<| .no)<| .no)<| .no)]
def aak:List (Nat×Sched):=[]
def arz:List (Nat×Sched):=[(27,.take 0<| .take 2<| .take 3<| .take 1<| .take 4<| .eff 5 false (.eff 6 false (.eff 7 false (.take 8<| .eff 9 true (.done)<| .no)<| .no)<| .no)<| .no),(34,.take 0<| .take 2<| .take 3<| .take 4<| .take 1<| .take 5<| .eff 6 false (.eff 7 false (.eff 8 false (.take 9<| .eff 10 true (.done)<| .no)<| .no)<| .no)<| .no)]
def asZ:List (Nat×Sched):=[]
def atR:List (Nat×Sched):=[(22,.take 0<| .take 1<| .take 2<| .take 3<| .take 4<| .take 5<| .eff 6 false (.eff 7 false (.take 8<| .take 9<| .eff 10 true (.done)<| .no)<| .no)<| .no),(23,.take 0<| .take 1<| .take 2<| .take 5<| .take 6<| .take 7<| .take 3<| .take 4<| .take 8<| .take 9<| .take 10<| .take 11<| .take 12<| .eff 13 true (.done)<| .no),(25,.take 0<| .take 1<| .take 2<| .take 3<| .take 4<| .eff 5 true (.take 6<| .eff 7 true (.done)<| .no)<| .no),(12,.take 0<| .take 2<| .take 3<| .take 1<| .take 4<| .eff 5 false (.eff 6 false (.eff 7 false (.take 8<| .eff 9 true (.done)<| .no)<| .no)<| .no)<| .no)]
def auG:List (Nat×Sched):=[]
def atv:List (Nat×Sched):=[(7,.take 0<| .take 1<| .take 2<| .eff 3 false (.eff 4 true (.done)<| .no)<| .no)]
def adW:List (Nat×Sched):=[(13,.take 4<| .take 0<| .take 1<| .take 2<| .take 3<| .take 5<| .take 6<| .take 7<| .take 8<| .eff 9 false (.take 10<| .eff 11 true (.done)<| .no)<| .no)]
def amc:List (Nat×Sched):=[]
def ai5:List (Nat×Sched):=[]
def an2:List (Nat×Sched):=[(20,.take 0<| .take 1<| .take 2<| .take 3<| .take 4<| .take 5<| .take 6<| .take 7<| .take 8<| .take 10<| .take 11<| .take 12<| .take 9<| .take 13<| .take 14<| .take 15<| .take 16<| .done),(22,.take 0<| .take 1<| .take 2<| .take 4<| .take 5<| .take 6<| .take 3<| .take 7<| .take 8<| .take 9<| .take 10<| .take 11<| .done),(24,.take 0<| .take 1<| .take 3<| .take 4<| .take 6<| .take 7<| .take 8<| .take 2<| .take 5<| .take 9<| .eff 10 false (.take 11<| .take 12<| .done)<| .no),(26,.take 0<| .take 1<| .take 3<| .take 4<| .take 5<| .take 2<| .take 6<| .eff 7 true (.take 8<| .take 9<| .take 10<| .take 11<| .done)<| .no),(29,.take 0<| .take 1<| .take 3<| .take 4<| .take 2<| .take 5<| .eff 6 true (.take 7<| .take 8<| .take 9<| .take 10<| .done)<| .no),(36,.take 0<| .take 1<| .take 3<| .take 4<| .take 2<| .take 5<| .eff 6 false (.eff 7 false (.take 8<| .done)<| .no)<| .no),(40,.take 0<| .take 1<| .take 3<| .take 4<| .take 5<| .take 6<| .take 2<| .take 7<| .eff 8 false (.take 9<| .take 10<| .done)<| .no)]
def ajw:List (Nat×Sched):=[]
def anZ:List (Nat×Sched):=[(8,.take 0<| .take 1<| .take 4<| .take 2<| .take 5<| .take 6<| .effN 3 false (.take 7<| .take 8<| .eff 9 false (.eff 10 false (.done)<| .no)<| .no)<| .no)]
def U1:List (Nat×Sched):=[(7,.take 0<| .take 1<| .eff 2 false (.eff 3 true (.done)<| .no)<| .no)]
def aop:List (Nat×Sched):=[]
def al6:List (Nat×Sched):=[]
def aiR:List (Nat×Sched):=[]
def afr:List (Nat×Sched):=[]
def ail:List (Nat×Sched):=[]
def ai6:List (Nat×Sched):=[]
def arj:List (Nat×Sched):=[]
def asb:List (Nat×Sched):=[]
def aqO:List (Nat×Sched):=[]
def asL:List (Nat×Sched):=[]
def apG:List (Nat×Sched):=[]
def apL:List (Nat×Sched):=[]
def apY:List (Nat×Sched):=[]
def atc:List (Nat×Sched):=[]
def amy:List (Nat×Sched):=[(19,.take 0<| .take 1<| .take 2<| .take 3<| .take 5<| .take 6<| .take 4<| .take 7<| .take 8<| .eff 9 false (.eff 10 false (.take 11<| .take 12<| .eff 13 true (.done)<| .no)<| .no)<| .no),(24,.take 0<| .take 1<| .take 2<| .take 3<| .take 4<| .take 6<| .take 7<| .eff 5 false (.eff 8 true (.take 9<| .eff 10 true (.done)<| .no)<| .no)<| .eff 8 false (.eff 5 false (.take 9<| .eff 10 true (.done)<| .no)<| .no)<| .no)]
def afw:List (Nat×Sched):=[]
def aml:List (Nat×Sched):=[]
def ahJ:List (Nat×Sched):=[]
def aoF:List (Nat×Sched):=[]
def amj:List (Nat×Sched):=[]
def anX:List (Nat×Sched):=[]
def akG:List (Nat×Sched):=[]
def apV:List (Nat×Sched):=[(28,.take 1<| .take 2<| .take 5<| .take 6<| .eff 0 false (.take 3<| .take 4<| .eff 7 false (.eff 8 false (.eff 9 true (.done)<| .no)<| .no)<| .no)<| .eff 7 false (.eff 0 false (.take 3<| .take 4<| .eff 8 false (.eff 9 true (.done)<| .no)<| .no)<| .no)<| .no)]
def arv:List (Nat×Sched):=[]
def atZ:List (Nat×Sched):=[]
def aq8:List (Nat×Sched):=[(1,.take 0<| .take 2<| .take 1<| .take 3<| .take 4<| .take 5<| .take 6<| .take 9<| .take 7<| .take 8<| .take 10<| .take 11<| .take 12<| .take 13<| .take 14<| .take 15<| .take 16<| .take 17<| .take 18<| .take 19<| .take 22<| .take 20<| .take 23<| .eff 21 false (.eff 24 false (.take 25<| .take 26<| .take 27<| .take 28<| .take 29<| .take 30<| .take 31<| .take 32<| .take 33<| .take 35<| .take 34<| .take 36<| .take 37<| .take 38<| .take 39<| .take 41<| .take 40<| .take 42<| .take 43<| .take 44<| .take 45<| .take 46<| .done)<| .no)<| .no),(6,.take 0<| .take 2<| .take 5<| .take 7<| .take 1<| .take 3<| .take 4<| .take 6<| .take 8<| .take 9<| .eff 10 false (.take 11<| .done)<| .no)]
def asa:List (Nat×Sched):=[]
def asf:List (Nat×Sched):=[(23,.take 0<| .take 1<| .take 2<| .take 3<| .take 4<| .take 6<| .take 7<| .take 8<| .take 5<| .take 9<| .take 10<| .take 11<| .take 12<| .done),(25,.take 0<| .take 1<| .take 2<| .take 4<| .take 3<| .take 5<| .take 6<| .take 7<| .take 8<| .take 9<| .done)]
def ajy:List (Nat×Sched):=[]
def aoy:List (Nat×Sched):=[]
def alK:List (Nat×Sched):=[(1,.take 0<| .take 1<| .take 2<| .take 4<| .take 5<| .take 6<| .take 3<| .take 7<| .take 8<| .done),(5,.take 0<| .take 1<| .take 2<| .take 5<| .take 6<| .take 7<| .take 3<| .take 8<| .eff 4 false (.eff 9 false (.take 10<| .take 11<| .done)<| .no)<| .no),(7,.take 0<| .take 1<| .take 2<| .take 4<| .take 5<| .take 6<| .take 3<| .take 7<| .take 8<| .take 9<| .take 10<| .take 11<| .take 12<| .take 14<| .take 15<| .take 16<| .take 13<| .take 17<| .take 18<| .take 19<| .take 20<| .done),(8,.take 0<| .take 1<| .take 2<| .take 4<| .take 5<| .take 6<| .take 3<| .take 7<| .eff 8 true (.take 9<| .done)<| .no)]
def abY:List (Nat×Sched):=[(5,.take 0<| .take 1<| .take 2<| .take 4<| .take 5<| .take 6<| .take 3<| .take 7<| .take 8<| .eff 9 false (.take 10<| .eff 11 true (.done)<| .no)<| .no),(6,.take 0<| .take 1<| .take 2<| .take 4<| .take 5<| .take 6<| .take 3<| .take 7<| .take 8<| .take 9<| .take 10<| .eff 11 false (.eff 12 false (.take 13<| .eff 14 true (.done)<| .no)<| .no)<| .no),(7,.take 0<| .take 1<| .take 2<| .take 5<| .take 6<| .take 7<| .take 3<| .take 4<| .take 8<| .take 9<| .take 10<| .take 11<| .take 12<| .take 13<| .take 14<| .eff 15 true (.done)<| .no)]
def ahS:List (Nat×Sched):=[(5,.take 0<| .take 2<| .take 3<| .take 4<| .take 1<| .take 5<| .take 6<| .take 7<| .take 8<| .take 9<| .take 10<| .take 11<| .take 12<| .take 13<| .take 14<| .take 16<| .take 17<| .take 18<| .take 15<| .take 19<| .take 20<| .take 21<| .take 22<| .done)]
def aiQ:List (Nat×Sched):=[]
def ajY:List (Nat×Sched):=[]
def aih:List (Nat×Sched):=[]
def an5:List (Nat×Sched):=[]
def am2:List (Nat×Sched):=[(1,.take 0<| .take 1<| .take 2<| .take 3<| .take 4<| .take 5<| .take 6<| .take 7<| .take 8<| .take 11<| .take 12<| .take 13<| .take 9<| .take 10<| .take 14<| .take 15<| .take 16<| .take 17<| .take 18<| .done)]
def ajU:List (Nat×Sched):=[]
def ad2:List (Nat×Sched):=[]
def afL:List (Nat×Sched):=[]
def aln:List (Nat×Sched):=[]
def agQ:List (Nat×Sched):=[]
def akP:List (Nat×Sched):=[]
def ak4:List (Nat×Sched):=[]
def alz:List (Nat×Sched):=[]
def agm:List (Nat×Sched):=[(7,.take 0<| .take 2<| .take 5<| .take 7<| .take 1<| .take 6<| .eff 3 false (.eff 4 false (.take 11<| .eff 8 false (.eff 9 false (.eff 10 false (.eff 12 true (.take 13<| .eff 14 true (.done)<| .no)<| .no)<| .no)<| .no)<| .no)<| .no)<| .no)]
def aid:List (Nat×Sched):=[]
def akz:List (Nat×Sched):=[]
def amb:List (Nat×Sched):=[]
def YP:List (Nat×Sched):=[]
def ZJ:List (Nat×Sched):=[]
def alD:List (Nat×Sched):=[]
def aj1:List (Nat×Sched):=[]
def agZ:List (Nat×Sched):=[(3,.take 0<| .take 1<| .take 3<| .take 4<| .take 5<| .take 7<| .take 8<| .take 2<| .take 6<| .take 9<| .eff 10 true (.take 11<| .take 12<| .take 13<| .take 14<| .done)<| .no),(5,.take 0<| .take 1<| .take 3<| .take 4<| .take 5<| .take 7<| .take 8<| .take 2<| .take 6<| .take 9<| .eff 10 true (.take 11<| .take 12<| .take 13<| .take 14<| .done)<| .no),(7,.take 0<| .take 1<| .take 3<| .take 4<| .take 6<| .take 7<| .take 8<| .take 10<| .take 11<| .take 13<| .take 14<| .take 2<| .take 5<| .take 9<| .take 12<| .take 15<| .eff 16 true (.take 17<| .take 18<| .take 19<| .take 20<| .done)<| .no),(9,.take 0<| .take 1<| .take 3<| .take 4<| .take 6<| .take 7<| .take 8<| .take 10<| .take 11<| .take 13<| .take 14<| .take 2<| .take 5<| .take 9<| .take 12<| .take 15<| .eff 16 true (.take 17<| .take 18<| .take 19<| .take 20<| .done)<| .no),(11,.take 0<| .take 1<| .take 3<| .take 4<| .take 6<| .take 7<| .take 8<| .take 10<| .take 11<| .take 13<| .take 14<| .take 2<| .take 5<| .take 9<| .take 12<| .take 15<| .eff 16 true (.take 17<| .take 18<| .take 19<| .take 20<| .done)<| .no),(13,.take 0<| .take 1<| .take 3<| .take 4<| .take 6<| .take 7<| .take 8<| .take 10<| .take 11<| .take 13<| .take 14<| .take 2<| .take 5<| .take 9<| .take 12<| .take 15<| .eff 16 true (.take 17<| .take 18<| .take 19<| .take 20<| .done)<| .no),(15,.take 0<| .take 1<| .take 3<| .take 4<| .take 2<| .take 5<| .eff 6 true (.take 7<| .take 8<| .take 9<| .take 10<| .done)<| .no),(17,.take 0<| .take 1<| .take 3<| .take 4<| .take 2<| .take 5<| .eff 6 true (.take 7<| .take 8<| .take 9<| .take 10<| .done)<| .no),(23,.take 0<| .take 1<| .take 3<| .take 4<| .take 5<| .take 7<| .take 8<| .take 9<| .take 11<| .take 12<| .take 2<| .take 6<| .take 10<| .take 13<| .eff 14 true (.take 15<| .take 16<| .take 17<| .take 18<| .done)<| .no),(24,.take 0<| .take 1<| .take 3<| .take 4<| .take 5<| .take 7<| .take 8<| .take 9<| .take 11<| .take 12<| .take 2<| .take 6<| .take 10<| .take 13<| .eff 14 true (.take 15<| .take 16<| .take 17<| .take 18<| .done)<| .no)]
def X8:List (Nat×Sched):=[(6,.take 0<| .take 2<| .take 1<| .take 3<| .eff 4 false (.take 5<| .done)<| .no),(8,.take 0<| .take 1<| .take 2<| .take 3<| .eff 4 false (.take 5<| .done)<| .no)]
def Yg:List (Nat×Sched):=[]
def Yo:List (Nat×Sched):=[]
def Zi:List (Nat×Sched):=[]
def Y9:List (Nat×Sched):=[]
def aiP:List (Nat×Sched):=[(6,.take 0<| .take 2<| .take 1<| .take 3<| .eff 4 false (.take 5<| .take 6<| .done)<| .no),(8,.take 0<| .take 1<| .take 2<| .take 3<| .eff 4 false (.take 5<| .take 6<| .done)<| .no)]
def ako:List (Nat×Sched):=[]
def agw:List (Nat×Sched):=[]
def ajh:List (Nat×Sched):=[]
def ah3:List (Nat×Sched):=[]
def ahA:List (Nat×Sched):=[(9,.take 0<| .take 1<| .take 2<| .take 3<| .take 4<| .take 5<| .take 6<| .take 7<| .take 8<| .take 10<| .take 11<| .take 12<| .take 9<| .take 13<| .take 14<| .take 15<| .done)]
def amY:List (Nat×Sched):=[]
def Zt:List (Nat×Sched):=[]
def XY:List (Nat×Sched):=[]
def Zv:List (Nat×Sched):=[]
def Z2:List (Nat×Sched):=[]
def Zh:List (Nat×Sched):=[]
def QL:List (Nat×Sched):=[(1,.take 0<| .take 1<| .take 2<| .take 3<| .take 4<| .take 5<| .take 6<| .take 7<| .take 8<| .take 9<| .take 10<| .take 11<| .take 12<| .take 13<| .take 14<| .take 15<| .take 16<| .take 17<| .take 20<| .take 21<| .take 22<| .take 18<| .take 19<| .take 23<| .take 24<| .take 25<| .take 26<| .take 27<| .take 28<| .take 29<| .take 30<| .take 31<| .take 32<| .take 33<| .take 34<| .take 35<| .take 36<| .take 37<| .take 38<| .take 39<| .take 40<| .take 41<| .take 42<| .take 43<| .take 44<| .take 45<| .take 46<| .take 47<| .take 48<| .take 49<| .take 50<| .done)]
def Yy:List (Nat×Sched):=[]
def Yr:List (Nat×Sched):=[]
def Zx:List (Nat×Sched):=[]
def Yz:List (Nat×Sched):=[]
def ZP:List (Nat×Sched):=[]
def YD:List (Nat×Sched):=[(11,.take 0<| .take 1<| .take 2<| .take 4<| .take 7<| .take 3<| .take 5<| .take 6<| .take 8<| .done)]
def Yh:List (Nat×Sched):=[]
def ZT:List (Nat×Sched):=[]
def YA:List (Nat×Sched):=[]
def YO:List (Nat×Sched):=[]
def Y6:List (Nat×Sched):=[]
def Yk:List (Nat×Sched):=[]
def YK:List (Nat×Sched):=[(13,.take 0<| .take 2<| .take 3<| .take 1<| .eff 4 false (.eff 5 false (.eff 6 true (.take 7<| .eff 8 true (.done)<| .no)<| .no)<| .no)<| .no)]
def Zy:List (Nat×Sched):=[]
def ZR:List (Nat×Sched):=[]
def YV:List (Nat×Sched):=[]
def Yl:List (Nat×Sched):=[]
def YW:List (Nat×Sched):=[]
def Y8:List (Nat×Sched):=[]
def ZE:List (Nat×Sched):=[]
def X2:List (Nat×Sched):=[(20,.take 0<| .take 1<| .take 2<| .take 3<| .take 5<| .take 8<| .take 9<| .take 10<| .take 4<| .take 6<| .take 7<| .eff 11 false (.eff 12 false (.eff 13 true (.done)<| .no)<| .no)<| .no)]
def am0:List (Nat×Sched):=[(11,.take 0<| .take 1<| .take 2<| .take 3<| .take 4<| .take 5<| .take 6<| .take 7<| .take 9<| .take 8<| .take 10<| .eff 11 true (.take 12<| .take 13<| .take 14<| .done)<| .no)]
def al3:List (Nat×Sched):=[(9,.take 0<| .take 1<| .take 2<| .take 3<| .take 4<| .take 6<| .take 7<| .take 8<| .take 5<| .take 9<| .take 10<| .take 11<| .done)]
def akw:List (Nat×Sched):=[]
def agT:List (Nat×Sched):=[(5,.take 0<| .take 1<| .take 2<| .take 5<| .take 3<| .take 6<| .eff 4 false (.take 7<| .take 8<| .eff 9 true (.done)<| .no)<| .no),(13,.take 0<| .take 1<| .take 2<| .take 3<| .take 4<| .take 5<| .take 6<| .take 7<| .take 8<| .take 10<| .take 9<| .take 11<| .eff 12 true (.take 13<| .take 14<| .done)<| .no),(15,.take 0<| .take 2<| .take 3<| .take 4<| .take 5<| .take 1<| .take 6<| .take 7<| .take 8<| .eff 9 true (.done)<| .no)]
def afx:List (Nat×Sched):=[]
def aiy:List (Nat×Sched):=[(11,.take 0<| .take 1<| .take 2<| .take 5<| .take 3<| .take 6<| .eff 4 false (.take 7<| .eff 8 false (.eff 9 false (.take 10<| .done)<| .no)<| .no)<| .no)]
def afp:List (Nat×Sched):=[]
def ago:List (Nat×Sched):=[]
def agI:List (Nat×Sched):=[]
def aow:List (Nat×Sched):=[]
def aj3:List (Nat×Sched):=[]
def agA:List (Nat×Sched):=[]
def agL:List (Nat×Sched):=[]
def aiN:List (Nat×Sched):=[]
def ahz:List (Nat×Sched):=[]
def amd:List (Nat×Sched):=[]
def alC:List (Nat×Sched):=[]
def X4:List (Nat×Sched):=[]
def YR:List (Nat×Sched):=[(19,.take 0<| .take 1<| .take 2<| .take 3<| .take 5<| .take 6<| .take 7<| .take 4<| .take 8<| .eff 9 false (.take 10<| .take 11<| .done)<| .no),(21,.take 0<| .take 1<| .take 2<| .take 3<| .take 4<| .take 5<| .take 6<| .take 7<| .take 8<| .take 10<| .take 11<| .take 12<| .take 9<| .take 13<| .take 14<| .take 15<| .take 16<| .done),(23,.take 0<| .take 1<| .take 2<| .take 4<| .take 5<| .take 6<| .take 3<| .take 7<| .take 8<| .take 9<| .take 10<| .take 11<| .done)]
def YF:List (Nat×Sched):=[]
def Y2:List (Nat×Sched):=[]
def Zz:List (Nat×Sched):=[]
def YX:List (Nat×Sched):=[]
def ZL:List (Nat×Sched):=[]
def YS:List (Nat×Sched):=[]
def ZV:List (Nat×Sched):=[]
def Y5:List (Nat×Sched):=[]
def ZN:List (Nat×Sched):=[]
def ZF:List (Nat×Sched):=[(12,.take 0<| .take 2<| .take 1<| .eff 3 false (.eff 4 false (.eff 5 true (.take 6<| .eff 7 true (.done)<| .no)<| .no)<| .no)<| .no),(14,.take 0<| .take 2<| .take 1<| .eff 3 false (.eff 4 false (.eff 5 true (.take 6<| .eff 7 true (.done)<| .no)<| .no)<| .no)<| .no)]
def ZW:List (Nat×Sched):=[]
def Ys:List (Nat×Sched):=[]
def ak5:List (Nat×Sched):=[]
def anw:List (Nat×Sched):=[]
def anA:List (Nat×Sched):=[(6,.take 1<| .take 2<| .take 3<| .take 0<| .take 4<| .eff 5 true (.take 6<| .done)<| .no)]
def aiw:List (Nat×Sched):=[]
def ahN:List (Nat×Sched):=[]
def afK:List (Nat×Sched):=[]
def anp:List (Nat×Sched):=[]
def ano:List (Nat×Sched):=[]
def ai3:List (Nat×Sched):=[]
def af8:List (Nat×Sched):=[]
def aj6:List (Nat×Sched):=[]
def ak2:List (Nat×Sched):=[(6,.take 0<| .take 1<| .take 2<| .take 3<| .take 4<| .take 5<| .take 6<| .done),(8,.take 0<| .take 1<| .take 2<| .take 3<| .take 4<| .take 5<| .take 6<| .eff 7 false (.eff 8 true (.done)<| .no)<| .no),(18,.take 8<| .take 10<| .take 1<| .take 2<| .take 3<| .take 4<| .take 5<| .eff 0 false (.take 6<| .take 7<| .eff 9 false (.eff 11 false (.eff 12 false (.eff 13 true (.done)<| .no)<| .no)<| .no)<| .no)<| .eff 9 false (.eff 0 false (.take 6<| .take 7<| .eff 11 false (.eff 12 false (.eff 13 true (.done)<| .no)<| .no)<| .no)<| .eff 11 false (.eff 0 false (.take 6<| .take 7<| .eff 12 false (.eff 13 true (.done)<| .no)<| .no)<| .no)<| .no)<| .no),(32,.take 4<| .take 6<| .take 0<| .take 1<| .take 2<| .take 3<| .eff 5 false (.eff 7 false (.eff 8 false (.eff 9 true (.done)<| .no)<| .no)<| .no)<| .no)]
def amt:List (Nat×Sched):=[]
def ah4:List (Nat×Sched):=[(3,.take 0<| .take 1<| .take 6<| .take 7<| .take 9<| .take 10<| .take 4<| .eff 2 false (.eff 3 false (.eff 5 false (.eff 8 false (.eff 11 false (.eff 12 false (.eff 13 false (.take 14<| .done)<| .no)<| .no)<| .no)<| .no)<| .no)<| .no)<| .no)]
def akr:List (Nat×Sched):=[]
def afR:List (Nat×Sched):=[]
def alw:List (Nat×Sched):=[]
def amC:List (Nat×Sched):=[]
def aj4:List (Nat×Sched):=[]
def aj0:List (Nat×Sched):=[]
def akY:List (Nat×Sched):=[]
def ali:List (Nat×Sched):=[]
def agt:List (Nat×Sched):=[]
def anr:List (Nat×Sched):=[]
def ah2:List (Nat×Sched):=[(6,.take 0<| .take 1<| .take 2<| .take 3<| .take 5<| .eff 4 false (.eff 6 false (.take 7<| .eff 8 false (.eff 9 false (.take 10<| .done)<| .no)<| .no)<| .no)<| .eff 6 false (.eff 4 false (.take 7<| .eff 8 false (.eff 9 false (.take 10<| .done)<| .no)<| .no)<| .no)<| .no),(14,.take 0<| .take 1<| .take 2<| .take 3<| .take 4<| .take 5<| .take 6<| .take 8<| .take 7<| .take 9<| .eff 10 true (.take 11<| .take 12<| .done)<| .no),(15,.take 0<| .take 1<| .take 2<| .take 3<| .take 4<| .take 5<| .take 7<| .take 6<| .take 8<| .eff 9 true (.take 10<| .take 11<| .eff 12 true (.done)<| .no)<| .no),(28,.take 0<| .take 1<| .take 2<| .take 3<| .take 4<| .take 5<| .eff 6 false (.eff 7 false (.eff 8 false (.take 9<| .done)<| .no)<| .no)<| .no)]
def agV:List (Nat×Sched):=[(1,.take 1<| .take 5<| .take 0<| .take 2<| .take 4<| .take 6<| .eff 3 false (.eff 7 false (.eff 8 false (.take 9<| .done)<| .no)<| .no)<| .no)]
def amB:List (Nat×Sched):=[(28,.take 0<| .take 1<| .take 2<| .take 3<| .take 4<| .take 6<| .take 7<| .take 8<| .take 5<| .take 9<| .take 10<| .take 11<| .take 12<| .done),(30,.take 0<| .take 1<| .take 2<| .take 4<| .take 3<| .take 5<| .take 6<| .take 7<| .eff 8 false (.take 9<| .done)<| .no),(46,.take 0<| .take 1<| .take 3<| .take 4<| .take 2<| .take 5<| .eff 6 true (.take 7<| .done)<| .no),(49,.take 0<| .take 1<| .take 3<| .take 4<| .take 2<| .take 5<| .eff 6 true (.take 7<| .done)<| .no),(21,.take 0<| .take 1<| .take 3<| .take 4<| .take 2<| .take 5<| .eff 6 true (.take 7<| .take 8<| .done)<| .no)]
def am6:List (Nat×Sched):=[]
def Zb:List (Nat×Sched):=[]
def YZ:List (Nat×Sched):=[(6,.take 0<| .take 1<| .take 3<| .take 4<| .take 2<| .take 5<| .eff 6 true (.take 7<| .take 8<| .take 9<| .take 10<| .done)<| .no),(12,.take 0<| .take 1<| .take 3<| .take 4<| .take 2<| .take 5<| .eff 6 true (.take 7<| .take 8<| .take 9<| .take 10<| .take 11<| .done)<| .no),(2,.take 0<| .take 1<| .take 3<| .take 4<| .take 2<| .take 5<| .eff 6 true (.take 7<| .take 8<| .take 9<| .take 10<| .take 11<| .done)<| .no)]
def Yv:List (Nat×Sched):=[]
def Zs:List (Nat×Sched):=[(1,.take 0<| .take 1<| .take 2<| .take 3<| .take 4<| .take 5<| .take 6<| .take 7<| .eff 8 false (.take 9<| .done)<| .no)]
def Zn:List (Nat×Sched):=[(1,.take 0<| .take 1<| .take 2<| .take 3<| .take 4<| .take 5<| .take 6<| .take 7<| .eff 8 false (.take 9<| .done)<| .no)]
def Zo:List (Nat×Sched):=[]
def Y4:List (Nat×Sched):=[]
def Ye:List (Nat×Sched):=[]
def ajt:List (Nat×Sched):=[(1,.take 0<| .take 2<| .eff 1 false (.eff 3 false (.eff 4 false (.eff 5 true (.done)<| .no)<| .no)<| .no)<| .no),(2,.take 0<| .take 2<| .take 5<| .take 7<| .take 10<| .take 12<| .take 1<| .take 3<| .take 6<| .take 8<| .take 11<| .take 13<| .eff 4 false (.eff 9 false (.eff 14 false (.eff 15 false (.eff 16 false (.take 17<| .done)<| .no)<| .no)<| .no)<| .no)<| .no)]
def ahW:List (Nat×Sched):=[]
def agW:List (Nat×Sched):=[]
def afP:List (Nat×Sched):=[]
def aie:List (Nat×Sched):=[(1,.take 4<| .take 0<| .take 1<| .take 2<| .take 3<| .take 5<| .take 6<| .eff 7 false (.eff 8 true (.done)<| .no)<| .no)]
def aia:List (Nat×Sched):=[]
def alS:List (Nat×Sched):=[(1,.take 0<| .take 2<| .eff 1 false (.eff 3 false (.eff 4 false (.eff 5 false (.eff 6 true (.done)<| .no)<| .no)<| .no)<| .no)<| .no)]
def ans:List (Nat×Sched):=[(1,.take 0<| .take 2<| .eff 1 false (.eff 3 false (.eff 4 false (.eff 5 false (.eff 6 true (.done)<| .no)<| .no)<| .no)<| .no)<| .no)]
def akO:List (Nat×Sched):=[(3,.take 0<| .take 2<| .take 1<| .take 4<| .take 3<| .take 5<| .done)]
def ah8:List (Nat×Sched):=[]
def agJ:List (Nat×Sched):=[]
def aij:List (Nat×Sched):=[]
def agM:List (Nat×Sched):=[]
def ag7:List (Nat×Sched):=[(0,.take 1<| .take 3<| .take 8<| .take 0<| .take 2<| .take 4<| .take 5<| .take 6<| .take 7<| .take 9<| .take 10<| .take 11<| .take 12<| .take 13<| .eff 14 false (.eff 15 false (.eff 16 true (.done)<| .no)<| .no)<| .no)]
def ald:List (Nat×Sched):=[]
def agy:List (Nat×Sched):=[]
def anS:List (Nat×Sched):=[]
def alq:List (Nat×Sched):=[]
def alg:List (Nat×Sched):=[]
def aot:List (Nat×Sched):=[]
def alW:List (Nat×Sched):=[(10,.take 0<| .take 1<| .take 2<| .take 3<| .take 4<| .eff 5 false (.eff 6 false (.eff 7 true (.done)<| .no)<| .no)<| .eff 6 false (.eff 5 true (.eff 7 true (.done)<| .no)<| .no)<| .no)]
def aou:List (Nat×Sched):=[]
def aoO:List (Nat×Sched):=[]
def Ya:List (Nat×Sched):=[]
def X6:List (Nat×Sched):=[]
def Zw:List (Nat×Sched):=[]
def X1:List (Nat×Sched):=[]
def agq:List (Nat×Sched):=[(4,.take 0<| .take 1<| .take 2<| .take 3<| .take 4<| .take 5<| .take 6<| .take 7<| .take 9<| .take 10<| .take 11<| .take 12<| .take 8<| .take 13<| .eff 14 true (.take 15<| .take 16<| .done)<| .no),(6,.take 0<| .take 1<| .take 2<| .take 3<| .take 4<| .take 5<| .take 6<| .take 7<| .take 8<| .take 10<| .take 11<| .take 12<| .take 9<| .take 13<| .take 14<| .eff 15 true (.take 16<| .eff 17 true (.done)<| .no)<| .no)]
def alX:List (Nat×Sched):=[(5,.take 0<| .take 1<| .take 2<| .take 3<| .take 5<| .take 6<| .take 7<| .take 4<| .take 8<| .eff 9 true (.take 10<| .done)<| .no),(11,.take 0<| .take 1<| .take 2<| .take 3<| .take 4<| .take 5<| .take 6<| .take 7<| .take 8<| .take 10<| .take 11<| .take 12<| .take 9<| .take 13<| .take 14<| .eff 15 true (.take 16<| .eff 17 true (.done)<| .no)<| .no),(17,.take 0<| .take 1<| .take 2<| .take 3<| .take 5<| .take 6<| .take 7<| .take 4<| .take 8<| .eff 9 true (.take 10<| .take 11<| .done)<| .no),(23,.take 0<| .take 1<| .take 2<| .take 3<| .take 4<| .take 5<| .take 6<| .take 7<| .take 8<| .take 10<| .take 11<| .take 12<| .take 9<| .take 13<| .take 14<| .eff 15 true (.take 16<| .eff 17 true (.done)<| .no)<| .no),(35,.take 0<| .take 1<| .take 2<| .take 3<| .take 4<| .take 5<| .take 7<| .take 8<| .take 9<| .take 6<| .take 10<| .eff 11 true (.take 12<| .take 13<| .done)<| .no)]
def amP:List (Nat×Sched):=[]
def aku:List (Nat×Sched):=[]
def ak7:List (Nat×Sched):=[]
def afY:List (Nat×Sched):=[]
def ahC:List (Nat×Sched):=[]
def aiC:List (Nat×Sched):=[]
def aoh:List (Nat×Sched):=[]
def agb:List (Nat×Sched):=[(1,.take 0<| .take 1<| .take 2<| .take 4<| .take 5<| .take 6<| .take 10<| .take 11<| .take 12<| .take 3<| .take 7<| .take 8<| .take 9<| .take 15<| .take 13<| .take 14<| .take 16<| .done)]
def aho:List (Nat×Sched):=[]
def aly:List (Nat×Sched):=[]
def aka:List (Nat×Sched):=[]
def alV:List (Nat×Sched):=[(4,.take 0<| .take 1<| .take 2<| .take 3<| .take 4<| .take 5<| .take 6<| .take 7<| .take 9<| .take 10<| .take 11<| .take 12<| .take 8<| .take 13<| .eff 14 true (.take 15<| .take 16<| .done)<| .no),(6,.take 0<| .take 1<| .take 2<| .take 3<| .take 4<| .take 5<| .take 6<| .take 7<| .take 8<| .take 10<| .take 11<| .take 12<| .take 9<| .take 13<| .take 14<| .eff 15 true (.take 16<| .eff 17 true (.done)<| .no)<| .no)]
def ahp:List (Nat×Sched):=[(5,.take 0<| .take 1<| .take 2<| .take 3<| .take 5<| .take 6<| .take 7<| .take 4<| .take 8<| .eff 9 true (.take 10<| .done)<| .no),(11,.take 0<| .take 1<| .take 2<| .take 3<| .take 4<| .take 5<| .take 6<| .take 7<| .take 8<| .take 10<| .take 11<| .take 12<| .take 9<| .take 13<| .take 14<| .eff 15 true (.take 16<| .eff 17 true (.done)<| .no)<| .no),(17,.take 0<| .take 1<| .take 2<| .take 3<| .take 5<| .take 6<| .take 7<| .take 4<| .take 8<| .eff 9 true (.take 10<| .take 11<| .done)<| .no),(23,.take 0<| .take 1<| .take 2<| .take 3<| .take 4<| .take 5<| .take 6<| .take 7<| .take 8<| .take 10<| .take 11<| .take 12<| .take 9<| .take 13<| .take 14<| .eff 15 true (.take 16<| .eff 17 true (.done)<| .no)<| .no),(35,.take 0<| .take 1<| .take 2<| .take 3<| .take 4<| .take 5<| .take 7<| .take 8<| .take 9<| .take 6<| .take 10<| .eff 11 true (.take 12<| .take 13<| .done)<| .no)]
def anl:List (Nat×Sched):=[(3,.take 0<| .take 1<| .take 2<| .take 3<| .take 4<| .take 5<| .take 6<| .take 7<| .take 8<| .take 9<| .take 10<| .take 11<| .take 12<| .take 14<| .take 15<| .take 16<| .take 17<| .take 18<| .take 13<| .take 19<| .take 20<| .eff 21 true (.take 22<| .eff 23 true (.done)<| .no)<| .no)]
def ajk:List (Nat×Sched):=[]
def als:List (Nat×Sched):=[(3,.take 0<| .take 1<| .take 2<| .take 3<| .take 4<| .take 5<| .take 6<| .take 7<| .take 8<| .take 9<| .take 10<| .take 11<| .take 12<| .take 14<| .take 15<| .take 16<| .take 17<| .take 18<| .take 13<| .take 19<| .take 20<| .eff 21 true (.take 22<| .eff 23 true (.done)<| .no)<| .no)]
def aje:List (Nat×Sched):=[]
def aiO:List (Nat×Sched):=[]
def ale:List (Nat×Sched):=[]
def YI:List (Nat×Sched):=[]
def YT:List (Nat×Sched):=[]
def Yi:List (Nat×Sched):=[]
def X7:List (Nat×Sched):=[]
def P5:List (Nat×Sched):=[]
def Y1:List (Nat×Sched):=[]
def ai8:List (Nat×Sched):=[]
def aoG:List (Nat×Sched):=[]
def afC:List (Nat×Sched):=[]
def akR:List (Nat×Sched):=[]
def aju:List (Nat×Sched):=[]
def amo:List (Nat×Sched):=[]
def Yu:List (Nat×Sched):=[]
def Yq:List (Nat×Sched):=[]
attribute [go_sem] mx af6 alB am7 ajQ am4 akl ahd am8 alc agx amV af9 aod anR aiz asH afH ajg aqR at6 af7 alO aq7 aqX asi aqY apE aqc aqk ar4 arc ash XL U8 Hw IH OS O1 alT aiB aoB alo at7 aqT akn at3 arA amq aif akT ahP amg as7 alM auo ap3 ar3 aux arC arl auh at5 arq apW ap4 aq0 acL UU VL Xv VT W5 Wd XN W7 Wg WW WD XK U7 XJ WT UQ Wl WZ U0 XG U6 VI Vp Wo WF Wh UV UR VR XF VA Vy Vd VG Vl W8 V0 V2 Vv aa4 aah ad0 aeO abI abb acU acH adL ad6 aee aeS Xi VY Wa UL Xg Wj acO aa5 adE aaU acu aae adA acJ aeR aen adF abQ adu aaL abx abS acw abp acC aa8 abz ab3 aeT ac5 ada adi aeb aci adg aam adC aeq acW Z8 ab6 abk aaW ab0 adl ar6 aeu ac6 abE abX ahh ahY amH ais ac3 aeM aa9 ajR acs afQ akg ahL ams akp ajO ajj an8 alN alr aud ahQ aoa adB abN aa0 ac7 alx ajH amG am3 adc acR aaT afv aad aga anJ alJ aiF afT alf ak8 akv akj anY atd aoD aoK amr alb Z9 Do Rm If ahE PI aaF kl GU acA abZ abw adS yV Z3 Pe Ym F0 Ke Ud ZZ al1 Re RK ajW K1 K6 aeQ DC Q4 Iv akt RH abh kB EP aea aa2 acz abR yL ado PT YU GA Kk OU Zk ag0 PV Ql agp Kx KC anf aoz agE aiJ ahG ajP aiX afN akd ani aiA aor agX akx ake alv ajK tk2 aqr ahq ari ata aqa arK aoM apw ag6 aur tk3 ahI apB auE akD aoC asQ aqz al4 aug tk4 asD aq1 apF aut tk5 asG arX apJ apH aqo arJ att atm atg apN atH ase tk9 asn atG aq3 ask dr3 dr4 dr5 dr6 dr7 dr8 dr9 ajm arP ajp aqH arO amL akV alm aos ah7 aic aoA asx atj arw aqq arp akm UJ an7 ahe aak arz asZ atR auG atv adW amc ai5 an2 ajw anZ U1 aop al6 aiR afr ail ai6 arj asb aqO asL apG apL apY atc amy afw aml ahJ aoF amj anX akG apV arv atZ aq8 asa asf ajy aoy alK abY ahS aiQ ajY aih an5 am2 ajU ad2 afL aln agQ akP ak4 alz agm aid akz amb YP ZJ alD aj1 agZ X8 Yg Yo Zi Y9 aiP ako agw ajh ah3 ahA amY Zt XY Zv Z2 Zh QL Yy Yr Zx Yz ZP YD Yh ZT YA YO Y6 Yk YK Zy ZR YV Yl YW Y8 ZE X2 am0 al3 akw agT afx aiy afp ago agI aow aj3 agA agL aiN ahz amd alC X4 YR YF Y2 Zz YX ZL YS ZV Y5 ZN ZF ZW Ys ak5 anw anA aiw ahN afK anp ano ai3 af8 aj6 ak2 amt ah4 akr afR alw amC aj4 aj0 akY ali agt anr ah2 agV amB am6 Zb YZ Yv Zs Zn Zo Y4 Ye ajt ahW agW afP aie aia alS ans akO ah8 agJ aij agM ag7 ald agy anS alq alg aot alW aou aoO Ya X6 Zw X1 agq alX amP aku ak7 afY ahC aiC aoh agb aho aly aka alV ahp anl ajk als aje aiO ale YI YT Yi X7 P5 Y1 ai8 aoG afC akR aju amo Yu Yq
attribute [go_sem ↓] UZ adp alG
set_option maxRecDepth 10000
def cR (v:V):Int:=
 if v.k=1 then 0 else if v.k=2 then (if v.n≠0/\v.n≠1 then 3 else 0) else if v.k=3 then (if v.n>1000000000000000\/v.n< -1000000000000000 then 3 else 0)
 else if v.k=4 then (if v.t.length>60 then 4 else 0) else 1
theorem nA (v:V)(M:aV):Ct Tryz.prog 127 [.agg ⟨v.cs⟩] M [] [] (fun r _ _ _=>r=.int .i64 (cR v)) bj:=by
 intro T
 obtain ⟨k,n,t⟩:=v
 refine aT mx Z5 Tryz.func127 rfl (by rw [af3];exact Nat.le_of_ble_eq_true rfl) (dr:=Yr) (by kernel_rfl) akM ?_
 intro _ _
 simp +contextual only [go_sem,ak,sevalprocAttr,V.cs]
 intro b T1 _ hT _
 (repeat' split)<;>(refine az hT ?_;refine Ds ?_;simp only [cR];grind)
def dE (k:Int):Int:=if k=1\/k=2\/k=19 then 0 else if k=3\/k=16\/(20<=k/\k<=23) then 1 else if (4<=k/\k<=15)\/k=18 then 2 else if k=17 then 3 else -1
theorem E5 (k:Int)(M:aV):Ct Tryz.prog 233 [.int .i64 k] M [] [] (fun r _ _ _=>r=.int .i64 (dE k)) bj:=by
 intro T
 refine aT mx aep Tryz.func233 rfl (by rw [afu];exact Nat.le_of_ble_eq_true rfl) (dr:=Ye) (by kernel_rfl) anU ?_
 intro _ _
 simp +contextual only [go_sem,ak,sevalprocAttr]
 (repeat' split)<;>(refine az aH.rfl' ?_;refine Ds ?_;simp only [dE];grind)
def ez (c:Int):Bool:=(decide (97<=c) && decide (c<=122)) || decide (c=95)
def fe (c:Int):Bool:=decide (48<=c) && decide (c<=57)
theorem rY (c:Int)(M:aV):Ct Tryz.prog 138 [.int .u8 c] M [] [] (fun r _ _ _=>r=.bool (ez c)) bj:=by
 intro T
 refine aT mx aeC Tryz.func138 rfl (by rw [an0];exact Nat.le_of_ble_eq_true rfl) (dr:=Yh) (by kernel_rfl) amU ?_
 intro _ _
 simp +contextual only [go_sem,ak,sevalprocAttr]
 refine az aH.rfl' ?_
 simp [ez]
theorem o5 (c:Int)(M:aV):Ct Tryz.prog 141 [.int .u8 c] M [] [] (fun r _ _ _=>r=.bool (fe c)) bj:=by
 intro T
 refine aT mx acl Tryz.func141 rfl (by rw [anI];exact Nat.le_of_ble_eq_true rfl) (dr:=YO) (by kernel_rfl) am1 ?_
 intro _ _
 simp +contextual only [go_sem,ak,sevalprocAttr]
 refine az aH.rfl' ?_
 simp [fe]
theorem WG (c:Int)(M:aV):Ct Tryz.prog 140 [.int .u8 c] M [] [] (fun r _ _ _=>r=.bool (ez c || fe c)) bj:=by
 intro T
 refine aT mx adG Tryz.func140 rfl (by rw [amQ];exact Nat.le_of_ble_eq_true rfl) (dr:=YA) (by kernel_rfl) aoH ?_
 intro _ _
 simp +contextual only [go_sem,ak,sevalprocAttr]
 refine am (rY c M T) ?_ (fun _ _ _ _ h=>h.elim)
 rintro v M' hM bN rfl
 simp +contextual only [go_sem,ak,sevalprocAttr]
 split
 ·rename_i h
  exact az aH.rfl' (by simp [h])
 ·rename_i h
  refine am (o5 c M' T) ?_ (fun _ _ _ _ h=>h.elim)
  rintro v M'' lC iQ rfl
  simp +contextual only [go_sem,ak,sevalprocAttr,h]
  exact az aH.rfl' (by simp [h])
structure Tk where
 k:Int
 s:Bs
 at_:Int
def wm (s:Bs):Bool:=decide (1<=s.length/\s.length<=16) && s.all fun c=>fe c.toNat
def gT (t:Tk)(cs:List Value):Prop:=cs=[.int .i64 t.k,st t.s,.int .i64 t.at_]/\(t.k=2 ->wm t.s=true)
theorem rj {t:Tk}{cs}(h:gT t cs):cs.length=3:=by obtain ⟨rfl,_⟩:=h;rfl
def se (e a:Int):List PanicEntry:=[{v:=.iface 144 (.agg #[.int .i64 e,.int .i64 a]),recovered:=false}]
theorem gY (e a:Int)(M:aV):Ct Tryz.prog 48 [.int .i64 e,.int .i64 a] M [] [] (fun _ _ _ _=>False) (fun ch _ _ _=>ch=se e a):=by
 intro T
 refine aT mx anx Tryz.func48 rfl (by rw [ap7];exact Nat.le_of_ble_eq_true rfl) (dr:=al6) (by kernel_rfl) aqU ?_
 intro _ _
 simp +contextual only [go_sem,ak,sevalprocAttr]
 exact az aH.rfl' rfl
def pF (en:Int):List Tk ->Int | []=>en | t::_=>t.at_
def bg (s:Bs):List Tk ->Bool | []=>false | t::_=>decide (t.s=s) && (decide (t.k=1) || decide (t.k=4))
theorem abH {M:aV}{b o:Nat}{t:Tk}{cs}(h:gT t cs)(ha:At M b o cs):aL M ⟨b,o,none⟩=some (.int .i64 t.k)/\aL M ⟨b,o+1,none⟩=some (st t.s)/\aL M ⟨b,o+2,none⟩=some (.int .i64 t.at_):=by
 obtain ⟨rfl,_⟩:=h
 exact ⟨ha.1,ha.2.1,ha.2.2.1⟩
theorem jW {M:aV}{aS:List Tk}{lv:Value}(h:RS M gT 3 aS lv):
 (aS=[]/\∃ a c,lv=.slice a 0 c)\/∃ t r b o c,aS=t::r/\lv=.slice (some ⟨b,o,none⟩) (r.length+1) c/\r.length+1<=c/\
  aL M ⟨b,o,none⟩=some (.int .i64 t.k)/\aL M ⟨b,o+1,none⟩=some (st t.s)/\aL M ⟨b,o+2,none⟩=some (.int .i64 t.at_):=by
 obtain ⟨hb,a,c,rfl,jo,_,eE⟩:=aI (by decide) (fun _ _=>rj) h
 cases aS with
 | nil=>exact .inl ⟨rfl,a,c,rfl⟩
 | cons t r=>
  obtain ⟨b,o,cs,rfl,ha,hr⟩:=eE 0 t rfl
  have:=abH hr ha
  simp only [Nat.zero_mul,Nat.add_zero] at this
  exact .inr ⟨t,r,b,o,c,rfl,rfl,jo,this⟩
theorem S9 {M:aV}{t:Tk}{r:List Tk}{lv:Value}(h:RS M gT 3 (t::r) lv)(hk:t.k=2):wm t.s=true:=by
 obtain ⟨_,xs,_,hl⟩:=h
 obtain ⟨cs,rest,_,h1,_⟩:=hl
 exact h1.2 hk
theorem J2 {M:aV}{pb:Nat}{aS:List Tk}{lv:Value}{en op:Int}(hl:RS M gT 3 aS lv):
 Ct Tryz.prog 49 [.pointer (some ⟨pb,0,none⟩)] M (pL pb lv en op) [] (fun r M' L' R'=>r=.int .i64 (pF en aS)/\M'=M/\L'=pL pb lv en op/\R'=[]) bj:=by
 intro T
 refine aT mx agO Tryz.func49 rfl (by rw [aqm];exact Nat.le_of_ble_eq_true rfl) (dr:=aiR) (by kernel_rfl) arG ?_
 intro bN _
 simp only [aE] at bN
 rcases jW hl with ⟨rfl,a,c,rfl⟩ | ⟨t,r,b,o,c,rfl,rfl,hc,h0,h1,h2⟩
 ·simp +contextual only [go_sem,ak,sevalprocAttr,bN]
  exact aM aH.rfl' rfl rfl ⟨rfl,rfl,rfl,rfl⟩
 ·simp +contextual only [go_sem,ak,sevalprocAttr,bN,h0,h1,h2]
  exact aM aH.rfl' rfl rfl ⟨rfl,rfl,rfl,rfl⟩
theorem Ci {M:aV}{pb:Nat}{aS:List Tk}{lv:Value}{en op:Int}(s:Bs)(hl:RS M gT 3 aS lv):
 Ct Tryz.prog 143 [.pointer (some ⟨pb,0,none⟩),st s] M (pL pb lv en op) [] (fun r M' L' R'=>r=.bool (bg s aS)/\M'=M/\L'=pL pb lv en op/\R'=[]) bj:=by
 intro T
 refine aT mx aaf Tryz.func143 rfl (by rw [ajL];exact Nat.le_of_ble_eq_true rfl) (dr:=Y6) (by kernel_rfl) ajq ?_
 intro bN _
 simp only [aE] at bN
 rcases jW hl with ⟨rfl,a,c,rfl⟩ | ⟨t,r,b,o,c,rfl,rfl,hc,h0,h1,h2⟩
 ·simp +contextual only [go_sem,ak,sevalprocAttr,bN]
  exact aM aH.rfl' rfl rfl ⟨rfl,rfl,rfl,rfl⟩
 ·simp +contextual only [go_sem,ak,sevalprocAttr,bN,h0,h1,h2]
  refine aM aH.rfl' rfl rfl ⟨?_,rfl,rfl,rfl⟩
  simp [bg]
theorem JR {M:aV}{pb:Nat}{aS:List Tk}{lv:Value}{en op:Int}(s:Bs)(hl:RS M gT 3 aS lv):
 Ct Tryz.prog 94 [.pointer (some ⟨pb,0,none⟩),st s] M (pL pb lv en op) [] (fun r M' L' R'=>r=.bool (bg s aS)/\M'=M/\R'=[]/\∃ lv',L'=pL pb lv' en op/\RS M gT 3 (if bg s aS=true then aS.tail else aS) lv') bj:=by
 intro T
 refine aT mx akX Tryz.func94 rfl (by rw [asu];exact Nat.le_of_ble_eq_true rfl) (dr:=ak4) (by kernel_rfl) asW ?_
 intro bN _
 simp +contextual only [go_sem,ak,sevalprocAttr]
 refine cM [] (pL pb lv en op) [] [] [] [] (Ci s hl T) ?_ (fun _ _ _ _ _ _ _ _ h=>h.elim)
 rintro v M' L' R' hM _ _ iQ ⟨rfl,rfl,rfl,rfl⟩
 simp only [aE] at bN
 by_cases hs:bg s aS=true
 ·rcases jW hl with ⟨rfl,a,c,rfl⟩ | ⟨t,r,b,o,c,rfl,rfl,hc,h0,h1,h2⟩
  ·cases hs
  ·have vY:(1:Int)<=((r.length+1:Nat):Int)/\r.length+1<=c:=⟨by omega,hc⟩
   simp +contextual only [go_sem,ak,sevalprocAttr,bN,hs,vY]
   refine aM aH.rfl' rfl rfl ?_
   refine ⟨rfl,rfl,rfl,_,rfl,?_⟩
   have:=CM (k:=1) (by decide) (fun _ _=>rj) hl (by simp)
   simpa using this
 ·simp +contextual only [go_sem,ak,sevalprocAttr,bN,hs]
  exact aM aH.rfl' rfl rfl ⟨rfl,rfl,rfl,_,rfl,hl⟩
inductive Rs (α:Type) where
 | ok (a:α) (r:List Tk)
 | err (e a:Int)
 | out
def fP {α:Type}(pb:Nat)(en op:Int)(enc:α ->Value ->aV ->Prop)(res:Rs α):eP:=fun v M' L' R'=>∃ a r lv',res=.ok a r/\L'=pL pb lv' en op/\RS M' gT 3 r lv'/\R'=[]/\enc a v M'
def gM {α:Type}(pb:Nat)(en:Int)(res:Rs α):n8:=fun ch _ L' R'=>∃ e a lv' op',res=.err e a/\ch=se e a/\L'=pL pb lv' en op'/\R'=[]
def bY (en:Int):List Bs ->List Tk ->Rs Unit
 | [],t=> .ok () t
 | s::l,t=>if bg s t=true then bY en l t.tail else .err 2 (pF en t)
theorem gW {N M R}{k:Sh ->Prop}{Lp:LL}:∀ (L1:LL),cK ⟨N,M,Lp,R⟩ k ->cK ⟨N,M,L1++Lp,R⟩ k
 | [],h=>h
 | (_,_)::L1,h=>al (gW L1 h)
section
variable {α:Type} {T N:Tm} {M:aV} {R:RR} {dr:List (Nat×Sched)} {ts:List ResultVar} {post:eP} {pb:Nat} {lv0 lv:Value} {en op0 op:Int} {d:Option Nat} {s:List Vc.Item} {e:dN} {aS:List Tk} {F:Fi} {ds:List Deferred} {L1 L2:LL}
theorem La {res:Rs α}{c a:Int}(L1:LL)(hT:aH T N)(h:res=.err c a):(fi Tryz.prog T dr ts (bd (pL pb lv0 en op0)) 0 post (gM pb en res)).pan (se c a) e [] ⟨N,M,L1++pL pb lv en op,R⟩:=by
 rw [mK,kj]
 exact gW L1 (cG (aM hT rfl rfl ⟨c,a,lv,op,h,rfl,rfl,rfl⟩))
theorem fJ {res:Rs α}{c a:Int}(L1:LL)(hT:aH T N)(h:res=.err c a):dT Tryz.prog (fi Tryz.prog T dr ts (bd (pL pb lv0 en op0)) 0 post (gM pb en res)) 48 [.int .i64 c,.int .i64 a] d s e [] ⟨N,M,L1++pL pb lv en op,R⟩ ⟨⟩:=by
 refine am (gY c a M N) (fun _ _ _ _ h=>h.elim) ?_
 rintro ch M4 ce bH rfl
 exact La L1 hT h
theorem mL (L1:LL)(hl:RS M gT 3 aS lv)(k:cB Tryz.prog F s (cV e d (.int .i64 (pF en aS))) ds ⟨N,M,L1++pL pb lv en op,R⟩ ⟨⟩):
 dT Tryz.prog F 49 [.pointer (some ⟨pb,0,none⟩)] d s e ds ⟨N,M,L1++pL pb lv en op,R⟩ ⟨⟩:=by
 refine dU L1 (J2 hl N) (fun v M' L' _ _ bN h=> ?_) (fun _ _ _ _ _ _ h=>h.elim)
 obtain ⟨rfl,rfl,rfl, -⟩:=h
 exact k
theorem ac8 (L1:LL)(x:Bs)(hl:RS M gT 3 aS lv)(k:cB Tryz.prog F s (cV e d (.bool (bg x aS))) ds ⟨N,M,L1++pL pb lv en op,R⟩ ⟨⟩):
 dT Tryz.prog F 143 [.pointer (some ⟨pb,0,none⟩),.string (bs x)] d s e ds ⟨N,M,L1++pL pb lv en op,R⟩ ⟨⟩:=by
 refine dU L1 (Ci x hl N) (fun v M' L' _ _ bN h=> ?_) (fun _ _ _ _ _ _ h=>h.elim)
 obtain ⟨rfl,rfl,rfl, -⟩:=h
 exact k
theorem Ev (L1:LL)(x:Bs)(hl:RS M gT 3 aS lv)(k:∀ lv',RS M gT 3 (if bg x aS=true then aS.tail else aS) lv' ->cB Tryz.prog F s (cV e d (.bool (bg x aS))) ds ⟨N,M,L1++pL pb lv' en op,R⟩ ⟨⟩):
 dT Tryz.prog F 94 [.pointer (some ⟨pb,0,none⟩),.string (bs x)] d s e ds ⟨N,M,L1++pL pb lv en op,R⟩ ⟨⟩:=by
 refine dU L1 (JR x hl N) (fun v M' L' _ _ bN h=> ?_) (fun _ _ _ _ _ _ h=>h.elim)
 obtain ⟨rfl,rfl, -,lv',rfl,ns⟩:=h
 exact k lv' ns
theorem jd (L1:LL)(x:Bs)(hl:RS M gT 3 aS lv)(k1:bg x aS=true ->∀ lv',RS M gT 3 aS.tail lv' ->cB Tryz.prog F s (cV e d (.bool true)) ds ⟨N,M,L1++pL pb lv' en op,R⟩ ⟨⟩)
 (k2:bg x aS=false ->∀ lv',RS M gT 3 aS lv' ->cB Tryz.prog F s (cV e d (.bool false)) ds ⟨N,M,L1++pL pb lv' en op,R⟩ ⟨⟩):
 dT Tryz.prog F 94 [.pointer (some ⟨pb,0,none⟩),.string (bs x)] d s e ds ⟨N,M,L1++pL pb lv en op,R⟩ ⟨⟩:=by
 refine Ev L1 x hl fun lv' ns=> ?_
 cases hs:bg x aS with
 | true=>exact k1 hs lv' (by simpa [hs] using ns)
 | false=>exact k2 hs lv' (by simpa [hs] using ns)
theorem sF {f:FuncId}{args:List Value}{enc:α ->Value ->aV ->Prop}{res:Rs α}(L1:LL)(hc:ep Tryz.prog f args N M (pL pb lv en op) [] (fP pb en op enc res) (gM pb en res))
 (k:∀ v M' a r lv',bG M M' ->aB M' (L1++pL pb lv' en op) ->res=.ok a r ->RS M' gT 3 r lv' ->enc a v M' ->cB Tryz.prog F s (cV e d v) ds ⟨N,M',L1++pL pb lv' en op,R⟩ ⟨⟩)
 (kp:∀ c a M' lv' op',bG M M' ->res=.err c a ->F.pan (se c a) e ds ⟨N,M',L1++pL pb lv' en op',R⟩):
 dT Tryz.prog F f args d s e ds ⟨N,M,L1++pL pb lv en op,R⟩ ⟨⟩:=by
 refine dU L1 hc (fun v M' L' hM _ bN h=> ?_) (fun ch M' L' hM _ bN h=> ?_)
 ·obtain ⟨a,r,lv',ay,rfl,hr, -,he⟩:=h
  exact k v M' a r lv' hM bN ay hr he
 ·obtain ⟨c,a,lv',op',ay,rfl,rfl, -⟩:=h
  exact kp c a M' lv' op' hM ay
end
theorem vz {M:aV}{pb:Nat}{aS:List Tk}{lv sv:Value}{en op:Int}{l:List Bs}(hl:RS M gT 3 aS lv)(hs:RS M pD 1 l sv):
 Ct Tryz.prog 51 [.pointer (some ⟨pb,0,none⟩),sv] M (pL pb lv en op) [] (fP pb en op (fun _ v _=>v=.tuple #[]) (bY en l aS)) (gM pb en (bY en l aS)):=by
 intro T
 obtain ⟨hb,a,c,rfl,jo,_,eE⟩:=aI (by decide) (fun _ _=>cO) hs
 refine aT mx JY Tryz.func51 rfl (by rw [arQ];exact Nat.le_of_ble_eq_true rfl) (dr:=ail) (by kernel_rfl) aqn ?_
 intro bN _
 simp +contextual only [go_sem,ak,sevalprocAttr]
 refine bh l.length 8 [(0,.pointer (some ⟨pb,0,none⟩)),(6,.slice a l.length c),(7,.int .i64 l.length)] (fun i e h=>∃ M' toks' lv',bG M M'/\h=⟨T,M',pL pb lv' en op,[]⟩/\M' pb=none/\RS M' gT 3 toks' lv'/\bY en l aS=bY en (l.drop i) toks') 0 (by omega) (by simp only [aG,go_sem,ak,sevalprocAttr]) (by simp only [go_sem,ak,sevalprocAttr]) ⟨M,aS,lv,bG.rfl',rfl,by simpa only [aE] using bN,hl,by simp⟩ ?_
 rintro i e h hi aD ht ⟨M',toks',lv',hM,rfl,iQ,ns,ay⟩
 simp only [aG] at aD
 by_cases aF:i<l.length
 ·obtain ⟨b,o,cs,rfl,cC,ff⟩:=eE i l[i] (List.getElem?_eq_getElem aF)
  unfold pD at ff;subst ff
  have hx:=ax hM cC.1
  rw [Nat.mul_one] at hx
  simp +contextual only [go_sem,ak,sevalprocAttr,aD,ht,aF,hx]
  refine cM [] (pL pb lv' en op) [] [] [] [] (JR l[i] ns T) ?_ (fun _ _ _ _ _ _ _ _ h=>h.elim)
  rintro v M'' L' R' lC _ _ YG ⟨rfl,rfl,rfl,lv'',rfl,adN⟩
  have bX:l.drop i=l[i]::l.drop (i+1):=List.drop_eq_getElem_cons aF
  rw [bX] at ay
  by_cases hs:bg l[i] toks'=true
  ·simp +contextual only [go_sem,ak,sevalprocAttr,aD,ht,hs]
   refine bW aF ?_ ?_ ⟨M'',toks'.tail,lv'',hM,rfl,iQ,by simpa [hs] using adN,by simpa [bY,hs] using ay⟩
   ·simp only [aG,aD,go_sem,ak,sevalprocAttr]
   ·simp only [ht,go_sem,ak,sevalprocAttr,aC i (by omega)]
  ·simp +contextual only [go_sem,ak,sevalprocAttr,aD,ht,hs]
   simp only [hs,if_false] at adN
   refine cM [] (pL pb lv'' en op) [] [] [] [] (J2 adN T) ?_ (fun _ _ _ _ _ _ _ _ h=>h.elim)
   rintro v M3 L' R' bD _ _ aZ ⟨rfl,rfl,rfl,rfl⟩
   simp +contextual only [go_sem,ak,sevalprocAttr,aD,ht,hs]
   refine fJ [] aH.rfl' ?_
   rw [ay]
   simp [bY,hs]
 ·have:i=l.length:=by omega
  subst this
  simp +contextual only [go_sem,ak,sevalprocAttr,aD,ht,aF]
  refine aM aH.rfl' rfl rfl ⟨(),toks',lv',?_,rfl,ns,rfl,rfl⟩
  rw [ay]
  simp [bY]
def yp (x:Bs):List Bs ->Int
 | []=> -1
 | s::l=>if s=x then 0 else if yp x l<0 then -1 else yp x l+1
def o8 (x:Bs)(l:List Bs)(i:Nat):Int:=if yp x (l.drop i)<0 then -1 else yp x (l.drop i)+i
theorem SX {M:aV}{l:List Bs}{sv:Value}(x:Bs)(hs:RS M pD 1 l sv):
 Ct Tryz.prog 170 [sv,st x] M [] [] (fun r _ _ _=>r=.int .i64 (o8 x l 0)) bj:=by
 intro T
 obtain ⟨hb,a,c,rfl,jo,_,eE⟩:=aI (by decide) (fun _ _=>cO) hs
 refine aT mx acn Tryz.func170 rfl (by rw [aoE];exact Nat.le_of_ble_eq_true rfl) (dr:=Yi) (by kernel_rfl) ahi ?_
 intro bN _
 simp +contextual only [go_sem,ak,sevalprocAttr]
 refine bh l.length 8 [(0,.slice a l.length c),(1,st x),(6,.slice a l.length c),(7,.int .i64 l.length)] (fun i e h=>h=⟨T,M,[],[]⟩/\o8 x l 0=o8 x l i) 0 (by omega) (by simp only [aG,go_sem,ak,sevalprocAttr]) (by simp only [go_sem,ak,sevalprocAttr]) ⟨rfl,rfl⟩ ?_
 rintro i e h hi aD ht ⟨rfl,ay⟩
 simp only [aG,st] at aD
 by_cases aF:i<l.length
 ·obtain ⟨b,o,cs,rfl,cC,ff⟩:=eE i l[i] (List.getElem?_eq_getElem aF)
  unfold pD at ff;subst ff
  have hx:=cC.1
  rw [Nat.mul_one] at hx
  have bX:l.drop i=l[i]::l.drop (i+1):=List.drop_eq_getElem_cons aF
  simp +contextual only [go_sem,ak,sevalprocAttr,aD,ht,aF,hx]
  split
  ·rename_i he
   refine az aH.rfl' ?_
   rw [he] at ay
   rw [ay]
   unfold o8
   rw [bX]
   simp only [yp,if_true]
   simp
  ·rename_i he
   refine bW aF ?_ ?_ ⟨rfl,?_⟩
   ·simp only [aG,aD,go_sem,ak,sevalprocAttr]
   ·simp only [ht,go_sem,ak,sevalprocAttr,aC i (by omega)]
   ·rw [ay]
    simp only [o8,bX,yp,if_neg (Ne.symm he)]
    split<;>split<;>omega
 ·have:i=l.length:=by omega
  subst this
  simp +contextual only [go_sem,ak,sevalprocAttr,aD,ht,aF]
  refine az aH.rfl' ?_
  rw [ay]
  simp [o8,yp]
theorem Sw (x:Bs)(l:List Bs):(0<=yp x l) ↔ x∈l:=by
 induction l with
 | nil=>simp [yp]
 | cons s l ih=>
  simp only [yp,List.mem_cons]
  split
  ·rename_i h;simp [h]
  ·rename_i h
   have hx:x≠s:=fun he=>h he.symm
   rw [show (x=s\/x∈l) ↔ x∈l from by simp [hx],<- ih]
   split<;>omega
theorem qw {M:aV}{l:List Bs}{sv:Value}(x:Bs)(hs:RS M pD 1 l sv):
 Ct Tryz.prog 106 [sv,st x] M [] [] (fun r _ _ _=>r=.bool (l.contains x)) bj:=by
 intro T
 refine aT mx Qw Tryz.func106 rfl (by rw [am5];exact Nat.le_of_ble_eq_true rfl) (dr:=YT) (by kernel_rfl) ajf ?_
 intro bN _
 simp +contextual only [go_sem,ak,sevalprocAttr]
 refine am (SX x hs T) ?_ (fun _ _ _ _ h=>h.elim)
 rintro v M' hM bN rfl
 simp +contextual only [go_sem,ak,sevalprocAttr]
 refine az aH.rfl' ?_
 simp only [o8,List.drop_zero]
 have:=Sw x l
 by_cases hm:x∈l
 ·have h0:=this.2 hm
  rw [if_neg (by omega)]
  simp [hm,h0]
 ·have h0:¬ 0<=yp x l:=fun h=>hm (this.1 h)
  rw [if_pos (by omega)]
  simp [hm]
end Go.Proofs.YtmccpbcbofhmlaaGreatDoor
namespace Go.Proofs
open Go.Shelf
def Tryz.lays137_ren:Go.Shelf.Ren:=⟨fun | 137=>92 | 217=>137 | 266=>181 | n=>n,fun | 9=>9 | 5=>5 | 3=>3 | n=>n,fun | n=>n⟩
theorem Tryz.lays137:Go.Proofs.Lays.n137 Tryz.prog Tryz.lays137_ren:={
 mixed:=by kernel_rfl
 f137:=Tryz.func92.trans (congrArg some (by kernel_rfl))
 f217:=Tryz.func137.trans (congrArg some (by kernel_rfl))
 f266:=Tryz.func181.trans (congrArg some (by kernel_rfl))
 t3:=Tryz.underlying3
 a3:=Tryz.isAgg3
 z3:=Tryz.sizeOf3
 v3:=Tryz.zeroValue3
 t5:=Tryz.underlying5
 a5:=Tryz.isAgg5
 z5:=Tryz.sizeOf5
 v5:=Tryz.zeroValue5
 t9:=Tryz.underlying9
 a9:=Tryz.isAgg9
 z9:=Tryz.sizeOf9
 v9:=Tryz.zeroValue9}
open Go.RowKit in
theorem Tryz.strings_IndexByte (s:ByteArray)(c:Int)(w:World):
 Calls Tryz.prog 92 #[.string s,.int .u8 c] w fun e w'=>e=.returned (.int .i64 (Lib.indexByte s.data.toList c.toNat.toUInt8))/\w'=w:=Any.strings_IndexByte Tryz.lays137 s c w
def Tryz.laysC174_ren:Go.Shelf.Ren:=⟨fun | 174=>188 | 247=>240 | 245=>241 | 287=>282 | 279=>283 | 280=>284 | 281=>285 | 282=>286 | 321=>308 | 322=>309 | 316=>310 | 171=>72 | 205=>311 | 243=>112 | 246=>171 | 283=>220 | 284=>221 | 285=>222 | 286=>223 | 129=>265 | 317=>264 | 318=>266 | 319=>267 | 320=>268 | 337=>301 | 338=>302 | n=>n,fun | 9=>9 | 3=>3 | 2=>2 | 75=>230 | 85=>283 | 4=>4 | 167=>374 | 5=>5 | 53=>312 | 175=>375 | 46=>363 | 168=>377 | 37=>134 | 0=>0 | 210=>403 | 21=>21 | 127=>196 | 145=>427 | 143=>425 | 171=>311 | 173=>315 | 212=>359 | 51=>360 | 20=>20 | 213=>361 | 232=>410 | 233=>411 | 80=>142 | n=>n,fun | 15=>6 | 16=>7 | 17=>1 | 18=>8 | 19=>9 | n=>n⟩
theorem Tryz.laysC174:Go.Proofs.LaysC.n174 Tryz.prog Tryz.laysC174_ren:={
 mixed:=by kernel_rfl
 f129:=Tryz.func265.trans (congrArg some (by kernel_rfl))
 f171:=Tryz.func72.trans (congrArg some (by kernel_rfl))
 f174:=Tryz.func188.trans (congrArg some (by kernel_rfl))
 f205:=Tryz.func311.trans (congrArg some (by kernel_rfl))
 f243:=Tryz.func112.trans (congrArg some (by kernel_rfl))
 f245:=Tryz.func241.trans (congrArg some (by kernel_rfl))
 f246:=Tryz.func171.trans (congrArg some (by kernel_rfl))
 f247:=Tryz.func240.trans (congrArg some (by kernel_rfl))
 f279:=Tryz.func283.trans (congrArg some (by kernel_rfl))
 f280:=Tryz.func284.trans (congrArg some (by kernel_rfl))
 f281:=Tryz.func285.trans (congrArg some (by kernel_rfl))
 f282:=Tryz.func286.trans (congrArg some (by kernel_rfl))
 f283:=Tryz.func220.trans (congrArg some (by kernel_rfl))
 f284:=Tryz.func221.trans (congrArg some (by kernel_rfl))
 f285:=Tryz.func222.trans (congrArg some (by kernel_rfl))
 f286:=Tryz.func223.trans (congrArg some (by kernel_rfl))
 f287:=Tryz.func282.trans (congrArg some (by kernel_rfl))
 f316:=Tryz.func310.trans (congrArg some (by kernel_rfl))
 f317:=Tryz.func264.trans (congrArg some (by kernel_rfl))
 f318:=Tryz.func266.trans (congrArg some (by kernel_rfl))
 f319:=Tryz.func267.trans (congrArg some (by kernel_rfl))
 f320:=Tryz.func268.trans (congrArg some (by kernel_rfl))
 f321:=Tryz.func308.trans (congrArg some (by kernel_rfl))
 f322:=Tryz.func309.trans (congrArg some (by kernel_rfl))
 f337:=Tryz.func301.trans (congrArg some (by kernel_rfl))
 f338:=Tryz.func302.trans (congrArg some (by kernel_rfl))
 t0:=Tryz.underlying0
 a0:=Tryz.isAgg0
 z0:=Tryz.sizeOf0
 v0:=Tryz.zeroValue0
 t2:=Tryz.underlying2
 a2:=Tryz.isAgg2
 z2:=Tryz.sizeOf2
 v2:=Tryz.zeroValue2
 t3:=Tryz.underlying3
 a3:=Tryz.isAgg3
 z3:=Tryz.sizeOf3
 v3:=Tryz.zeroValue3
 t4:=Tryz.underlying4
 a4:=Tryz.isAgg4
 z4:=Tryz.sizeOf4
 v4:=Tryz.zeroValue4
 t5:=Tryz.underlying5
 a5:=Tryz.isAgg5
 z5:=Tryz.sizeOf5
 v5:=Tryz.zeroValue5
 t9:=Tryz.underlying9
 a9:=Tryz.isAgg9
 z9:=Tryz.sizeOf9
 v9:=Tryz.zeroValue9
 t20:=Tryz.underlying20
 a20:=Tryz.isAgg20
 z20:=Tryz.sizeOf20
 v20:=Tryz.zeroValue20
 t21:=Tryz.underlying21
 a21:=Tryz.isAgg21
 z21:=Tryz.sizeOf21
 v21:=Tryz.zeroValue21
 t37:=Tryz.underlying134
 a37:=Tryz.isAgg134
 z37:=Tryz.sizeOf134
 v37:=Tryz.zeroValue134
 t46:=Tryz.underlying363
 a46:=Tryz.isAgg363
 z46:=Tryz.sizeOf363
 v46:=Tryz.zeroValue363
 t51:=Tryz.underlying360
 a51:=Tryz.isAgg360
 z51:=Tryz.sizeOf360
 v51:=Tryz.zeroValue360
 t53:=Tryz.underlying312
 a53:=Tryz.isAgg312
 z53:=Tryz.sizeOf312
 v53:=Tryz.zeroValue312
 t75:=Tryz.underlying230
 a75:=Tryz.isAgg230
 z75:=Tryz.sizeOf230
 v75:=Tryz.zeroValue230
 t85:=Tryz.underlying283
 a85:=Tryz.isAgg283
 z85:=Tryz.sizeOf283
 v85:=Tryz.zeroValue283
 t127:=Tryz.underlying196
 a127:=Tryz.isAgg196
 z127:=Tryz.sizeOf196
 v127:=Tryz.zeroValue196
 t143:=Tryz.underlying425
 a143:=Tryz.isAgg425
 z143:=Tryz.sizeOf425
 v143:=Tryz.zeroValue425
 t145:=Tryz.underlying427
 a145:=Tryz.isAgg427
 z145:=Tryz.sizeOf427
 v145:=Tryz.zeroValue427
 t167:=Tryz.underlying374
 a167:=Tryz.isAgg374
 z167:=Tryz.sizeOf374
 v167:=Tryz.zeroValue374
 t168:=Tryz.underlying377
 a168:=Tryz.isAgg377
 z168:=Tryz.sizeOf377
 v168:=Tryz.zeroValue377
 t171:=Tryz.underlying311
 a171:=Tryz.isAgg311
 z171:=Tryz.sizeOf311
 v171:=Tryz.zeroValue311
 t173:=Tryz.underlying315
 a173:=Tryz.isAgg315
 z173:=Tryz.sizeOf315
 v173:=Tryz.zeroValue315
 t175:=Tryz.underlying375
 a175:=Tryz.isAgg375
 z175:=Tryz.sizeOf375
 v175:=Tryz.zeroValue375
 t210:=Tryz.underlying403
 a210:=Tryz.isAgg403
 z210:=Tryz.sizeOf403
 v210:=Tryz.zeroValue403
 t212:=Tryz.underlying359
 a212:=Tryz.isAgg359
 z212:=Tryz.sizeOf359
 v212:=Tryz.zeroValue359
 t213:=Tryz.underlying361
 a213:=Tryz.isAgg361
 z213:=Tryz.sizeOf361
 t232:=Tryz.underlying410
 a232:=Tryz.isAgg410
 z232:=Tryz.sizeOf410
 v232:=Tryz.zeroValue410
 t233:=Tryz.underlying411
 a233:=Tryz.isAgg411
 z233:=Tryz.sizeOf411
 v233:=Tryz.zeroValue411
 g15:=by kernel_rfl
 g16:=by kernel_rfl
 g17:=by kernel_rfl
 g18:=by kernel_rfl
 g19:=by kernel_rfl
 t80:=Tryz.underlying142
 a80:=Tryz.isAgg142
 z80:=Tryz.sizeOf142
 v80:=Tryz.zeroValue142
 i0:=by kernel_rfl
 i2:=by kernel_rfl
 i3:=by kernel_rfl
 i4:=by kernel_rfl
 i5:=by kernel_rfl
 i9:=by kernel_rfl
 i20:=by kernel_rfl
 i21:=by kernel_rfl
 i37:=by kernel_rfl
 i46:=by kernel_rfl
 i51:=by kernel_rfl
 i53:=by kernel_rfl
 i75:=by kernel_rfl
 i80:=by kernel_rfl
 i85:=by kernel_rfl
 i127:=by kernel_rfl
 i143:=by kernel_rfl
 i145:=by kernel_rfl
 i167:=by kernel_rfl
 i168:=by kernel_rfl
 i171:=by kernel_rfl
 i173:=by kernel_rfl
 i175:=by kernel_rfl
 i210:=by kernel_rfl
 i212:=by kernel_rfl
 i232:=by kernel_rfl
 i233:=by kernel_rfl
 m15:=by kernel_rfl
 m16:=by kernel_rfl
 m17:=by kernel_rfl
 m18:=by kernel_rfl
 m19:=by kernel_rfl
 c0:=by kernel_rfl
 c2:=by kernel_rfl
 c3:=by kernel_rfl
 c4:=by kernel_rfl
 c5:=by kernel_rfl
 c9:=by kernel_rfl
 c20:=by kernel_rfl
 c21:=by kernel_rfl
 c37:=by kernel_rfl
 c46:=by kernel_rfl
 c51:=by kernel_rfl
 c53:=by kernel_rfl
 c75:=by kernel_rfl
 c80:=by kernel_rfl
 c85:=by kernel_rfl
 c127:=by kernel_rfl
 c143:=by kernel_rfl
 c145:=by kernel_rfl
 c167:=by kernel_rfl
 c168:=by kernel_rfl
 c171:=by kernel_rfl
 c173:=by kernel_rfl
 c175:=by kernel_rfl
 c210:=by kernel_rfl
 c212:=by kernel_rfl
 c213:=by kernel_rfl
 c232:=by kernel_rfl
 c233:=by kernel_rfl}
open Go.RowKit in
theorem Tryz.strconv_ParseInt_10_at64_ok (s:ByteArray)(atA:s.size<=9223372036854775806)(v:Int)(h:Lib.parseIntB 64 s.data.toList=.ok v)(w:World):
 Calls Tryz.prog 188 #[.string s,.int .i64 10,.int .i64 64] w fun e w'=>e=.returned (.tuple #[.int .i64 v,.nilIface])/\(w'=w\/∃ t,w'=Lib.bytesWorld w 5 t):=Any.strconv_ParseInt_10_at64_ok Tryz.laysC174 s atA v h w
def Tryz.lays157_ren:Go.Shelf.Ren:=⟨fun | 157=>239 | 229=>280 | 199=>281 | 261=>307 | 311=>320 | 312=>321 | n=>n,fun | 9=>9 | 31=>93 | 3=>3 | 5=>5 | 4=>4 | 119=>371 | 0=>0 | 40=>373 | 152=>395 | 21=>21 | 154=>397 | 51=>360 | 141=>399 | 196=>417 | 193=>414 | 198=>420 | 49=>418 | 194=>415 | 201=>423 | 226=>428 | 46=>363 | 227=>429 | n=>n,fun | 0=>2 | 6=>5 | n=>n⟩
theorem Tryz.lays157:Go.Proofs.Lays.n157 Tryz.prog Tryz.lays157_ren:={
 mixed:=by kernel_rfl
 f157:=Tryz.func239.trans (congrArg some (by kernel_rfl))
 f199:=Tryz.func281.trans (congrArg some (by kernel_rfl))
 f229:=Tryz.func280.trans (congrArg some (by kernel_rfl))
 f261:=Tryz.func307.trans (congrArg some (by kernel_rfl))
 f311:=Tryz.func320.trans (congrArg some (by kernel_rfl))
 f312:=Tryz.func321.trans (congrArg some (by kernel_rfl))
 t0:=Tryz.underlying0
 a0:=Tryz.isAgg0
 z0:=Tryz.sizeOf0
 v0:=Tryz.zeroValue0
 t3:=Tryz.underlying3
 a3:=Tryz.isAgg3
 z3:=Tryz.sizeOf3
 v3:=Tryz.zeroValue3
 t4:=Tryz.underlying4
 a4:=Tryz.isAgg4
 z4:=Tryz.sizeOf4
 v4:=Tryz.zeroValue4
 t5:=Tryz.underlying5
 a5:=Tryz.isAgg5
 z5:=Tryz.sizeOf5
 v5:=Tryz.zeroValue5
 t9:=Tryz.underlying9
 a9:=Tryz.isAgg9
 z9:=Tryz.sizeOf9
 v9:=Tryz.zeroValue9
 t21:=Tryz.underlying21
 a21:=Tryz.isAgg21
 z21:=Tryz.sizeOf21
 v21:=Tryz.zeroValue21
 t31:=Tryz.underlying93
 a31:=Tryz.isAgg93
 z31:=Tryz.sizeOf93
 v31:=Tryz.zeroValue93
 t40:=Tryz.underlying373
 a40:=Tryz.isAgg373
 z40:=Tryz.sizeOf373
 v40:=Tryz.zeroValue373
 t46:=Tryz.underlying363
 a46:=Tryz.isAgg363
 z46:=Tryz.sizeOf363
 v46:=Tryz.zeroValue363
 t49:=Tryz.underlying418
 a49:=Tryz.isAgg418
 z49:=Tryz.sizeOf418
 v49:=Tryz.zeroValue418
 t51:=Tryz.underlying360
 a51:=Tryz.isAgg360
 z51:=Tryz.sizeOf360
 v51:=Tryz.zeroValue360
 t119:=Tryz.underlying371
 a119:=Tryz.isAgg371
 z119:=Tryz.sizeOf371
 t141:=Tryz.underlying399
 a141:=Tryz.isAgg399
 z141:=Tryz.sizeOf399
 v141:=Tryz.zeroValue399
 t152:=Tryz.underlying395
 a152:=Tryz.isAgg395
 z152:=Tryz.sizeOf395
 v152:=Tryz.zeroValue395
 t154:=Tryz.underlying397
 a154:=Tryz.isAgg397
 z154:=Tryz.sizeOf397
 v154:=Tryz.zeroValue397
 t193:=Tryz.underlying414
 a193:=Tryz.isAgg414
 z193:=Tryz.sizeOf414
 v193:=Tryz.zeroValue414
 t194:=Tryz.underlying415
 a194:=Tryz.isAgg415
 z194:=Tryz.sizeOf415
 v194:=Tryz.zeroValue415
 t196:=Tryz.underlying417
 a196:=Tryz.isAgg417
 z196:=Tryz.sizeOf417
 v196:=Tryz.zeroValue417
 t198:=Tryz.underlying420
 a198:=Tryz.isAgg420
 z198:=Tryz.sizeOf420
 v198:=Tryz.zeroValue420
 t201:=Tryz.underlying423
 a201:=Tryz.isAgg423
 z201:=Tryz.sizeOf423
 v201:=Tryz.zeroValue423
 t226:=Tryz.underlying428
 a226:=Tryz.isAgg428
 z226:=Tryz.sizeOf428
 v226:=Tryz.zeroValue428
 t227:=Tryz.underlying429
 a227:=Tryz.isAgg429
 z227:=Tryz.sizeOf429
 v227:=Tryz.zeroValue429
 g0:=by kernel_rfl
 g6:=by kernel_rfl}
open Go.RowKit Go.Lib in
theorem Tryz.strings_Fields (s:ByteArray)(w:World)(hs:s.size<4294967281)(abd:∀ (j:Nat) b,s.data.toList[j]?=some b ->b.toNat<128)(LX:Lib.TabIs Tryz.prog w "strings.asciiSpace" .u8 Lib.asciiSpaceTab):
 Calls Tryz.prog 239 #[.string s] w fun e w'=>
  e=.returned (.slice (some ⟨w.heap.size,0,none⟩) (Lib.fields s.data.toList).length (Lib.fields s.data.toList).length)/\w'=w.alloc (.cells ((Lib.fields s.data.toList).map fun l=>Value.string ⟨l.toArray⟩).toArray 9):=Any.strings_Fields Tryz.lays157 (by kernel_rfl) (by kernel_rfl) s w hs abd LX
end Go.Proofs
namespace Go.Proofs.YtmccpbcbofhmlaaGreatDoor
open Go Vc
set_option maxRecDepth 10000
def tu:List Bs:=[[99,114,101,97,116,101],
 [116,97,98,108,101],
 [118,105,101,119],
 [97,115],
 [105,110,115,101,114,116],
 [105,110,116,111],
 [118,97,108,117,101,115],
 [100,101,108,101,116,101],
 [102,114,111,109],
 [119,104,101,114,101],
 [115,104,111,119],
 [115,101,108,101,99,116],
 [100,105,115,116,105,110,99,116],
 [103,114,111,117,112],
 [98,121],
 [104,97,118,105,110,103],
 [117,110,105,111,110],
 [97,108,108],
 [101,120,99,101,112,116],
 [111,114,100,101,114],
 [108,105,109,105,116],
 [106,111,105,110],
 [108,101,102,116],
 [115,101,109,105],
 [97,110,116,105],
 [111,110],
 [97,110,100],
 [111,114],
 [110,111,116],
 [105,115],
 [110,117,108,108],
 [116,114,117,101],
 [102,97,108,115,101],
 [99,97,115,101],
 [119,104,101,110],
 [116,104,101,110],
 [101,108,115,101],
 [101,110,100],
 [99,111,97,108,101,115,99,101],
 [99,111,117,110,116],
 [115,117,109],
 [109,105,110],
 [109,97,120],
 [105,110,116],
 [116,101,120,116],
 [98,111,111,108]]
def fO (M:aV):Prop:=∀ g,Tryz.prog.globalNamed "strings.asciiSpace"=some g ->M g=some (Lib.asciiSpaceTab.map fun z=>Value.int .u8 z)
theorem fO.ext {M M':aV}(h:fO M)(he:bG M M'):fO M':=fun g hg=>he _ _ (h g hg)
theorem fO.tab {M:aV}{w:World}(h:fO M)(hw:qt M w):Lib.TabIs Tryz.prog w "strings.asciiSpace" .u8 Lib.asciiSpaceTab:=by
 unfold Lib.TabIs World.var?
 cases hg:Tryz.prog.globalNamed "strings.asciiSpace" with
 | none=>
  have h2:(Tryz.prog.globalNamed "strings.asciiSpace").isSome=true:=by kernel_rfl
  rw [hg] at h2;cases h2
 | some g=>
  obtain ⟨t,f,ht⟩:=hw g _ (h g hg)
  simp [ht]
theorem MU {M:aV}(hg:fO M)(s:Bs)(hs:s.length<4294967281)(ha:s.all (fun b=>b.toNat<128)=true):
 Ct Tryz.prog 239 [st s] M [] [] (fun r M' _ _=>∃ b,r=.slice (some ⟨b,0,none⟩) (Lib.fields s).length (Lib.fields s).length/\M' b=some ((Lib.fields s).map st)) bj:=by
 refine PP (t:=9) (cs:=(Lib.fields s).map st) (fun b=> .slice (some ⟨b,0,none⟩) (Lib.fields s).length (Lib.fields s).length) acB fun w hw=> ?_
 have ha':∀ (j:Nat) b,(bs s).data.toList[j]?=some b ->b.toNat<128:=fun j b hj=>by
  have:=List.all_eq_true.1 ha b (List.mem_of_getElem? (by simpa [bs] using hj))
  simpa using this
 have h2:=Tryz.strings_Fields (bs s) w (by rw [q8];exact hs) ha' (hg.tab hw)
 have hd:(bs s).data.toList=s:=by simp [bs]
 rw [hd] at h2
 exact h2
theorem DI {M:aV}(hg:fO M):Ct Tryz.prog 183 [] M [] [] (fun r M' _ _=>RS M' pD 1 tu r) bj:=by
 intro T
 refine aT mx aeg Tryz.func183 rfl (by rw [alA];exact Nat.le_of_ble_eq_true rfl) (dr:=YX) (by kernel_rfl) akN ?_
 intro bN _
 simp +contextual only [go_sem,ak,sevalprocAttr]
 refine am (MU hg _ (by decide) (by kernel_rfl) T) ?_ (fun _ _ _ _ h=>h.elim)
 rintro v M' hM _ ⟨b,rfl,hb⟩
 simp +contextual only [go_sem,ak,sevalprocAttr]
 refine az aH.rfl' ?_
 have hw:∀ {s:Bs},Lib.fields s=tu ->M' b=some ((Lib.fields s).map st) ->RS M' pD 1 tu (.slice (some ⟨b,0,none⟩) (Lib.fields s).length (Lib.fields s).length):=by
  intro s h1 h2
  rw [h1] at h2 ⊢
  exact df (fun _ _=>cO) h2 (eQ _) rfl (by decide)
 exact hw (by kernel_rfl) hb
def FK (i:Nat)(c:UInt8):Bool:=ez c.toNat || (decide (i≠0) && fe c.toNat)
def ma:Nat ->Bs ->Bool
 | _,[]=>true
 | i,c::l=>FK i c && ma (i+1) l
def dl (s:Bs):Bool:=decide (1<=s.length/\s.length<=12) && !tu.contains s && ma 0 s
theorem k9 {s:Bs}{i:Nat}(h:i<s.length):sQ (bs s) i=s[i]:=by
 simp [sQ,bs,h]
theorem uu {M:aV}(hg:fO M)(s:Bs):Ct Tryz.prog 144 [st s] M [] [] (fun r _ _ _=>r=.bool (dl s)) bj:=by
 intro T
 refine aT mx aan Tryz.func144 rfl (by rw [afW];exact Nat.le_of_ble_eq_true rfl) (dr:=Yk) (by kernel_rfl) ain ?_
 intro bN _
 simp +contextual only [go_sem,ak,sevalprocAttr]
 by_cases hl:(s.length:Int)<1\/12<(s.length:Int)
 ·rw [if_pos hl]
  refine az aH.rfl' ?_
  have:¬ (1<=s.length/\s.length<=12):=by omega
  simp [dl,this]
 ·rw [if_neg hl]
  have jo:1<=s.length/\s.length<=12:=by omega
  refine am (DI hg T) ?_ (fun _ _ _ _ h=>h.elim)
  rintro v M' hM _ hw
  simp +contextual only [go_sem,ak,sevalprocAttr,hl]
  refine am (qw s hw T) ?_ (fun _ _ _ _ h=>h.elim)
  rintro v' M2 aX _ rfl
  simp +contextual only [go_sem,ak,sevalprocAttr,hl]
  by_cases hc:tu.contains s=true
  ·simp only [hc,go_sem,ak,sevalprocAttr]
   refine az aH.rfl' ?_
   rw [dl,hc];simp
  ·simp only [hc,go_sem,ak,sevalprocAttr]
   refine bh s.length 20 [(0,st s),(19,.int .i64 s.length)] (fun i e h=>h=⟨T,M2,[],[]⟩/\ma 0 s=ma i (s.drop i)) 0 (by omega) (by simp only [aG,go_sem,ak,sevalprocAttr]) (by simp only [go_sem,ak,sevalprocAttr]) ⟨rfl,rfl⟩ ?_
   rintro i e h hi aD ht ⟨rfl,ay⟩
   simp only [aG,st] at aD
   by_cases aF:i<s.length
   ·have hx:=k9 aF
    have bX:s.drop i=s[i]::s.drop (i+1):=List.drop_eq_getElem_cons aF
    rw [bX] at ay
    simp only [ma] at ay
    have h0:((i:Int)=0)=(i=0):=by simp
    simp +contextual only [go_sem,ak,sevalprocAttr,aD,ht,aF,hx]
    by_cases hk:FK i s[i]=true
    ·rw [if_neg (by simp only [FK,ez,fe,Bool.or_eq_true,Bool.and_eq_true,decide_eq_true_eq] at hk;omega)]
     refine bW aF ?_ ?_ ⟨rfl,?_⟩
     ·simp only [aG,aD,go_sem,ak,sevalprocAttr]
     ·simp only [ht,go_sem,ak,sevalprocAttr,aC i (by omega)]
     ·rw [ay,hk];rfl
    ·rw [if_pos (by simp only [FK,ez,fe,Bool.or_eq_true,Bool.and_eq_true,decide_eq_true_eq] at hk;omega)]
     refine az aH.rfl' ?_
     simp only [Bool.not_eq_true] at hk
     rw [dl,ay,hk];simp
   ·have:i=s.length:=by omega
    subst this
    simp +contextual only [go_sem,ak,sevalprocAttr,aD,ht,aF]
    refine az aH.rfl' ?_
    have:ma 0 s=true:=by rw [ay];simp [ma]
    simp only [Bool.not_eq_true] at hc
    rw [dl,hc,this];simp [jo]
def iE (en:Int):List Tk ->Rs Bs
 | []=> .err 2 en
 | t::r=>if t.k=1 then (if dl t.s=true then .ok t.s r else .err 7 t.at_) else .err 2 t.at_
theorem iK {M:aV}{pb:Nat}{aS:List Tk}{lv:Value}{en op:Int}(hg:fO M)(hl:RS M gT 3 aS lv):
 Ct Tryz.prog 95 [.pointer (some ⟨pb,0,none⟩)] M (pL pb lv en op) [] (fP pb en op (fun s v _=>v=st s) (iE en aS)) (gM pb en (iE en aS)):=by
 intro T
 refine aT mx aob Tryz.func95 rfl (by rw [apu];exact Nat.le_of_ble_eq_true rfl) (dr:=alz) (by kernel_rfl) ars ?_
 intro bN _
 simp only [aE] at bN
 rcases jW hl with ⟨rfl,a,c,rfl⟩ | ⟨t,r,b,o,c,rfl,rfl,hc,h0,h1,h2⟩
 ·simp +contextual only [go_sem,ak,sevalprocAttr,bN]
  refine mL [] hl ?_
  simp +contextual only [go_sem,ak,sevalprocAttr]
  exact fJ [] aH.rfl' rfl
 ·by_cases hk:t.k=1
  ·simp +contextual only [go_sem,ak,sevalprocAttr,bN,h0,h1,h2,hk]
   refine am (uu hg t.s T) ?_ (fun _ _ _ _ h=>h.elim)
   rintro v M3 bD aZ rfl
   have fV:=aN bD (fun _ _ h=>h) hl
   simp only [aE] at aZ
   by_cases hn:dl t.s=true
   ·have vY:(1:Int)<=((r.length+1:Nat):Int)/\r.length+1<=c:=⟨by omega,hc⟩
    simp +contextual only [go_sem,ak,sevalprocAttr,hn,aZ,vY]
    refine aM aH.rfl' rfl rfl ⟨t.s,r,_,?_,rfl,?_,rfl,rfl⟩
    ·simp [iE,hk,hn]
    ·simpa using CM (k:=1) (by decide) (fun _ _=>rj) fV (by simp)
   ·simp +contextual only [go_sem,ak,sevalprocAttr,hn]
    refine mL [] fV ?_
    simp +contextual only [go_sem,ak,sevalprocAttr]
    exact fJ [] aH.rfl' (by simp [iE,hk,hn,pF])
  ·simp +contextual only [go_sem,ak,sevalprocAttr,bN,h0,h1,h2,hk]
   refine mL [] hl ?_
   simp +contextual only [go_sem,ak,sevalprocAttr]
   exact fJ [] aH.rfl' (by simp [iE,hk,pF])
def ue (s:Bs):Nat:=s.foldl (fun n c=>n*10+(c.toNat - 48)) 0
theorem aio (l:Bs):∀ (aO k:Nat),aO<10 ^ k ->k+l.length<=16 ->(l.all fun c=>fe c.toNat)=true ->
 Lib.parseUintM (2 ^ 64 - 1) aO l=.ok (l.foldl (fun n c=>n*10+(c.toNat - 48)) aO)/\l.foldl (fun n c=>n*10+(c.toNat - 48)) aO<10 ^ (k+l.length):=by
 induction l with
 | nil=>intro aO k h _ _;exact ⟨rfl,by simpa using h⟩
 | cons c l ih=>
  intro aO k h hk hd
  simp only [List.all_cons,Bool.and_eq_true,fe,decide_eq_true_eq] at hd
  simp only [List.length_cons] at hk
  have hc:48<=c.toNat/\c.toNat<=57:=by omega
  have us:aO<10 ^ 15:=Nat.lt_of_lt_of_le h (Nat.pow_le_pow_right (by decide) (by omega))
  have hn:aO*10+(c.toNat - 48)<10 ^ (k+1):=by rw [Nat.pow_succ];omega
  have:=ih (aO*10+(c.toNat - 48)) (k+1) hn (by omega) (by simpa [fe] using hd.2)
  simp only [Lib.parseUintM,if_pos hc,List.foldl_cons,List.length_cons]
  rw [if_neg (by omega),if_neg (by omega)]
  refine ⟨this.1,?_⟩
  rw [show k+(l.length+1)=k+1+l.length from by omega]
  exact this.2
theorem Ce {s:Bs}(h:wm s=true):Lib.parseIntB 64 s=.ok (ue s:Int)/\ue s<10 ^ 16:=by
 simp only [wm,Bool.and_eq_true,decide_eq_true_eq] at h
 obtain ⟨⟨h1,h2⟩,h3⟩:=h
 obtain ⟨hu,aF⟩:=aio s 0 0 (by decide) (by omega) h3
 have ato:ue s<10 ^ 16:=Nat.lt_of_lt_of_le aF (Nat.pow_le_pow_right (by decide) (by omega))
 refine ⟨?_,ato⟩
 cases s with
 | nil=>simp at h1
 | cons c r=>
  simp only [List.all_cons,Bool.and_eq_true,fe,decide_eq_true_eq] at h3
  have hc:¬ (c.toNat=43\/c.toNat=45):=by omega
  have vY:¬ c.toNat=45:=by omega
  unfold Lib.parseIntB
  simp only [if_neg hc,Lib.parseUintB,if_neg (List.cons_ne_nil c r),hu]
  have:¬ (2 ^ (64 - 1)<=ue (c::r)):=by omega
  simp only [vY,not_false_eq_true,true_and,false_and,if_false]
  change ¬ (2 ^ (64 - 1)<=List.foldl (fun n c=>n*10+(c.toNat - 48)) 0 (c::r)) at this
  rw [if_neg this]
  rfl
theorem FO {M:aV}{s:Bs}(h:wm s=true):Ct Tryz.prog 188 [st s,.int .i64 10,.int .i64 64] M [] [] (fun r M' _ _=>r=.tuple #[.int .i64 (ue s),.nilIface]/\M'=M) bj:=by
 refine pf adn fun w hw=> ?_
 have hl:s.length<=16:=by
  simp only [wm,Bool.and_eq_true,decide_eq_true_eq] at h
  exact h.1.2
 have hd:(bs s).data.toList=s:=by simp [bs]
 refine Calls.mono (Tryz.strconv_ParseInt_10_at64_ok (bs s) (by rw [q8];omega) (ue s) (by rw [hd];exact (Ce h).1) w) ?_
 rintro e w' ⟨rfl,ix⟩
 refine ⟨rfl,?_⟩
 rcases ix with rfl | ⟨t,rfl⟩
 ·exact lU.rfl'
 ·exact lU.bytes
def iW:Bs:=[45]
def nI (neg:Bool)(at0 en:Int):List Tk ->Rs Int
 | []=> .err 2 en
 | t::r=>if t.k=2 then (if (ue t.s:Int)>1000000000000000 then .err 3 at0 else .ok (if neg=true then -(ue t.s:Int) else ue t.s) r) else .err 2 t.at_
def sP (en:Int)(aS:List Tk):Rs Int:=nI (bg iW aS) (pF en aS) en (if bg iW aS=true then aS.tail else aS)
theorem Fj {M:aV}{pb:Nat}{aS:List Tk}{lv:Value}{en op:Int}(hl:RS M gT 3 aS lv):
 Ct Tryz.prog 148 [.pointer (some ⟨pb,0,none⟩)] M (pL pb lv en op) [] (fP pb en op (fun n v _=>v=.int .i64 n) (sP en aS)) (gM pb en (sP en aS)):=by
 intro T
 refine aT mx ac1 Tryz.func148 rfl (by rw [akI];exact Nat.le_of_ble_eq_true rfl) (dr:=YV) (by kernel_rfl) ama ?_
 intro bN _
 simp only [aE] at bN
 simp +contextual only [go_sem,ak,sevalprocAttr]
 refine mL [] hl ?_
 simp +contextual only [go_sem,ak,sevalprocAttr]
 refine Ev [] iW hl ?_
 intro lv' ns
 generalize hg:(if bg iW aS=true then aS.tail else aS)=toks1 at ns
 have ay:sP en aS=nI (bg iW aS) (pF en aS) en toks1:=by unfold sP;rw [hg]
 rcases jW ns with ⟨rfl,a,c,rfl⟩ | ⟨t,r,b,o,c,rfl,rfl,hc,h0,h1,h2⟩
 ·simp +contextual only [go_sem,ak,sevalprocAttr,bN]
  refine mL [] ns ?_
  simp +contextual only [go_sem,ak,sevalprocAttr]
  exact fJ [] aH.rfl' ay
 ·by_cases hk:t.k=2
  ·simp +contextual only [go_sem,ak,sevalprocAttr,bN,h0,h1,h2,hk]
   have aog:=S9 ns hk
   have aF:=(Ce aog).2
   refine am (FO aog T) ?_ (fun _ _ _ _ h=>h.elim)
   rintro v M3 bD aZ ⟨rfl,rfl⟩
   simp only [nI,hk,if_true] at ay
   by_cases Fv:(1000000000000000:Int)<(ue t.s:Int)
   ·simp +contextual only [go_sem,ak,sevalprocAttr,Fv]
    exact fJ [] aH.rfl' (by rw [ay,if_pos Fv])
   ·have vY:(1:Int)<=((r.length+1:Nat):Int)/\r.length+1<=c:=⟨by omega,hc⟩
    rw [if_neg Fv] at ay
    have Fe:RS M3 gT 3 r (.slice (nP (some ⟨b,o,none⟩) c 1 3) (r.length+1 - 1) (c - 1)):=by simpa using CM (k:=1) (by decide) (fun _ _=>rj) ns (by simp)
    by_cases hs:bg iW aS=true
    ·simp +contextual only [go_sem,ak,sevalprocAttr,Fv,bN,vY,hs]
     refine aM aH.rfl' rfl rfl ⟨_,r,_,ay,rfl,?_,rfl,?_⟩
     ·simpa using Fe
     ·simp only [hs,if_true]
      rw [Pv _ (by omega)]
    ·simp +contextual only [go_sem,ak,sevalprocAttr,Fv,bN,vY,hs]
     refine aM aH.rfl' rfl rfl ⟨_,r,_,ay,rfl,?_,rfl,?_⟩
     ·simpa using Fe
     ·simp only [hs,if_false]
      rfl
  ·simp +contextual only [go_sem,ak,sevalprocAttr,bN,h0,h1,h2,hk]
   refine mL [] ns ?_
   simp +contextual only [go_sem,ak,sevalprocAttr]
   exact fJ [] aH.rfl' (by simp [ay,nI,hk,pF])
def iO (k:Int):List Tk ->Bool | []=>false | t::_=>decide (t.k=k)
def xJ:List Tk ->V | []=>⟨0,0,[]⟩ | t::_=>⟨4,0,t.s⟩
def Rs.map {α β:Type}(f:α ->β):Rs α ->Rs β
 | .ok a r=> .ok (f a) r
 | .err e a=> .err e a
 | .out=> .out
def kP:Bs:=[110,117,108,108]
def zA:Bs:=[116,114,117,101]
def sL:Bs:=[102,97,108,115,101]
def eS (en:Int)(aS:List Tk):Rs (Option V):=
 if bg kP aS=true then .ok (some ⟨1,0,[]⟩) aS.tail
 else if bg zA aS=true then .ok (some ⟨2,1,[]⟩) aS.tail
 else if bg sL aS=true then .ok (some ⟨2,0,[]⟩) aS.tail
 else if bg iW aS=true\/iO 2 aS=true then (sP en aS).map fun n=>some ⟨3,n,[]⟩
 else if iO 3 aS=true then .ok (some (xJ aS)) aS.tail
 else .ok none aS
def QS (o:Option V)(v:Value)(_:aV):Prop:=match o with
 | some x=>v=.tuple #[.agg ⟨x.cs⟩,.bool true]
 | none=>v=.tuple #[.agg ⟨(⟨0,0,[]⟩:V).cs⟩,.bool false]
theorem yD {M:aV}{pb:Nat}{aS:List Tk}{lv:Value}{en op:Int}(hl:RS M gT 3 aS lv):
 Ct Tryz.prog 151 [.pointer (some ⟨pb,0,none⟩)] M (pL pb lv en op) [] (fP pb en op QS (eS en aS)) (gM pb en (eS en aS)):=by
 intro T
 refine aT mx aa6 Tryz.func151 rfl (by rw [akB];exact Nat.le_of_ble_eq_true rfl) (dr:=Y8) (by kernel_rfl) agj ?_
 intro bN _
 simp only [aE] at bN
 simp +contextual only [go_sem,ak,sevalprocAttr]
 intro b2 T2 eG iP hT hTb
 refine jd [(b2,_)] kP hl (fun gH lv1 gF=> ?_) (fun gH lv1 gF=> ?_)
 ·simp +contextual only [go_sem,ak,sevalprocAttr,iP,eG,bN]
  exact al (aM hT rfl rfl ⟨some ⟨1,0,[]⟩,aS.tail,lv1,by simp [eS,gH],rfl,gF,rfl,rfl⟩)
 simp +contextual only [go_sem,ak,sevalprocAttr]
 refine jd [(b2,_)] zA gF (fun mU lv2 ft=> ?_) (fun mU lv2 ft=> ?_)
 ·simp +contextual only [go_sem,ak,sevalprocAttr,iP,eG,bN]
  exact al (aM hT rfl rfl ⟨some ⟨2,1,[]⟩,aS.tail,lv2,by simp [eS,gH,mU],rfl,ft,rfl,rfl⟩)
 simp +contextual only [go_sem,ak,sevalprocAttr]
 refine jd [(b2,_)] sL ft (fun KR lv3 fV=> ?_) (fun KR lv3 fV=> ?_)
 ·simp +contextual only [go_sem,ak,sevalprocAttr,iP,eG,bN]
  exact al (aM hT rfl rfl ⟨some ⟨2,0,[]⟩,aS.tail,lv3,by simp [eS,gH,mU,KR],rfl,fV,rfl,rfl⟩)
 simp +contextual only [go_sem,ak,sevalprocAttr]
 refine ac8 [(b2,_)] iW fV ?_
 have DJ:eS en aS=if bg iW aS=true\/iO 2 aS=true then (sP en aS).map fun n=>some ⟨3,n,[]⟩
  else if iO 3 aS=true then .ok (some (xJ aS)) aS.tail else .ok none aS:=by simp [eS,gH,mU,KR]
 rcases jW fV with ⟨rfl,a,c,rfl⟩ | ⟨t,r,b,o,c,rfl,rfl,hc,h0,h1,h2⟩
 ·simp +contextual only [go_sem,ak,sevalprocAttr,iP,eG,bN,bg]
  refine al (aM hT rfl rfl ⟨none,[],_,?_,rfl,fV,rfl,rfl⟩)
  simp [DJ,bg,iO]
 ·by_cases hm:bg iW (t::r)=true\/t.k=2
  ·have hv:eS en (t::r)=(sP en (t::r)).map fun n=>some ⟨3,n,[]⟩:=by
    rw [DJ,if_pos]
    simpa [iO] using hm
   simp +contextual only [go_sem,ak,sevalprocAttr,iP,eG,bN,h0,h1,h2,hm]
   refine sF [(b2,_)] (Fj fV T2) ?_ (fun c a M' lv' op' hM h=>La [(b2,_)] hT (by rw [hv,h];rfl))
   rintro v M' n r' lv' hM iQ ay ns rfl
   simp only [List.cons_append,List.nil_append,aB,aE] at iQ
   simp +contextual only [go_sem,ak,sevalprocAttr,iP,iQ]
   exact al (aM hT rfl rfl ⟨some ⟨3,n,[]⟩,r',lv',by rw [hv,ay];rfl,rfl,ns,rfl,rfl⟩)
  ·have hv:eS en (t::r)=if t.k=3 then .ok (some ⟨4,0,t.s⟩) r else .ok none (t::r):=by
    rw [DJ,if_neg (by simpa [iO] using hm)]
    simp [iO,xJ]
   simp only [not_or] at hm
   simp +contextual only [go_sem,ak,sevalprocAttr,iP,eG,bN,h0,h1,h2,hm]
   by_cases hk:t.k=3
   ·have vY:(1:Int)<=((r.length+1:Nat):Int)/\r.length+1<=c:=⟨by omega,hc⟩
    rw [if_pos hk] at hv
    simp +contextual only [go_sem,ak,sevalprocAttr,iP,eG,bN,h0,h1,h2,hm,hk]
    intro b4 T4 iR cN j6 pp
    simp +contextual only [go_sem,ak,sevalprocAttr,iP,eG,bN,h0,h1,h2,hm,hk,iR,cN,vY]
    refine al (al (aM (hT.trans j6) rfl rfl ⟨_,r,_,hv,rfl,?_,rfl,rfl⟩))
    simpa using CM (k:=1) (by decide) (fun _ _=>rj) fV (by simp)
   ·rw [if_neg hk] at hv
    simp +contextual only [go_sem,ak,sevalprocAttr,iP,eG,bN,h0,h1,h2,hm,hk]
    exact al (aM hT rfl rfl ⟨none,t::r,_,hv,rfl,fV,rfl,rfl⟩)
theorem Om {M:aV}{pb b:Nat}{lv:Value}{en op:Int}(hb:M b=some [.pointer (some ⟨pb,0,none⟩)])(T:Tm):
 CtD Tryz.prog 189 [.pointer (some ⟨b,0,none⟩)] T M (pL pb lv en op) [] (fun _ M' L' _=>M'=M/\L'=pL pb lv en (IntKind.i64.wrap (op - 1))) bj:=by
 refine Kh mx acQ Tryz.func189 rfl (by rw [anN];exact Nat.le_of_ble_eq_true rfl) (dr:=ZN) (by kernel_rfl) ahj ?_
 intro bN _
 simp only [aE] at bN
 simp +contextual only [go_sem,ak,sevalprocAttr,aY hb,bN]
 refine aM aH.rfl' rfl rfl ?_
 exact ⟨rfl,rfl⟩
theorem Lq {M:aV}{pb:Nat}{aS:List Tk}{lv:Value}{en op:Int}(hl:RS M gT 3 aS lv)(h0:0<=op)(h1:op<=1000):
 Ct Tryz.prog 152 [.pointer (some ⟨pb,0,none⟩)] M (pL pb lv en op) [] (fun r M' L' _=>op+1<=100/\L'=pL pb lv en (op+1)/\∃ b,r=.func (.func 189) #[] #[.pointer (some ⟨b,0,none⟩)]/\M' b=some [.pointer (some ⟨pb,0,none⟩)])
  (fun ch _ L' _=>¬ op+1<=100/\ch=se 4 (pF en aS)/\∃ op',L'=pL pb lv en op'):=by
 intro T
 refine aT mx Z4 Tryz.func152 rfl (by rw [aol];exact Nat.le_of_ble_eq_true rfl) (dr:=ZE) (by kernel_rfl) ahm ?_
 intro bN _
 simp only [aE] at bN
 simp +contextual only [go_sem,ak,sevalprocAttr,bN]
 intro b T2 hb iP hT hTb
 have hw:IntKind.i64.wrap (op+1)=op+1:=eZ (by omega) (by omega)
 simp +contextual only [go_sem,ak,sevalprocAttr,bN,hb,iP,hw]
 by_cases Fv:(100:Int)<op+1
 ·simp +contextual only [go_sem,ak,sevalprocAttr,bN,hb,iP,hw,Fv]
  refine mL [(b,_)] hl ?_
  simp +contextual only [go_sem,ak,sevalprocAttr]
  refine am (gY 4 (pF en aS) M _) (fun _ _ _ _ h=>h.elim) ?_
  rintro ch M4 ce bH rfl
  rw [mK,kj]
  refine al (aM hT rfl rfl ?_)
  exact ⟨by omega,rfl,_,rfl⟩
 ·simp +contextual only [go_sem,ak,sevalprocAttr,bN,hb,iP,hw,Fv]
  refine aJ fun he h1 h2=> ?_
  refine aM hT rfl rfl ?_
  exact ⟨by omega,rfl,b,rfl,h1⟩
def nB (k:Int)(kids:List X):X:=.mk k ⟨0,0,[]⟩ [] [] kids
def Ht (x:X)(v:Value)(M:aV):Prop:=∃ cs,v=.agg ⟨cs⟩/\RX M x cs
theorem FC {M:aV}{k:Int}{kids:List X}{s:Value}(h:RS M (RX M) 7 kids s):RX M (nB k kids) [.int .i64 k,.int .i64 0,.int .i64 0,st [],st [],st [],s]:=
 tI.2 ⟨s,rfl,h⟩
theorem DH {cs:List Value}(h:cs.length=7):∃ a b c d e f g,cs=[a,b,c,d,e,f,g]:=by
 match cs,h with
 | [a,b,c,d,e,f,g],_=>exact ⟨a,b,c,d,e,f,g,rfl⟩
theorem cb {M:aV}{x:X}{cs}(h:RX M x cs):∃ s,cs=[.int .i64 x.k,.int .i64 x.v.k,.int .i64 x.v.n,st x.v.t,st x.tab,st x.name,s]/\s.oneCell'=true/\RS M (RX M) 7 x.kids s:=by
 obtain ⟨s,rfl,hs⟩:=tI.1 h
 refine ⟨s,rfl,?_,hs⟩
 obtain ⟨_,_,h2,_⟩:=hs
 rcases h2 with ⟨_,_,rfl,_⟩ | ⟨b,o,n,c,rfl,_⟩<;>rfl
theorem BG {M:aV}(k:Int){x:X}{cs:List Value}(hx:RX M x cs):Ct Tryz.prog 191 [.int .i64 k,.agg ⟨cs⟩] M [] [] (fun v M' _ _=>Ht (nB k [x]) v M') bj:=by
 intro T
 obtain ⟨s,rfl,h1,hs⟩:=cb hx
 refine aT mx aeD Tryz.func191 rfl (by rw [aoU];exact Nat.le_of_ble_eq_true rfl) (dr:=ZW) (by kernel_rfl) afB ?_
 intro bN _
 simp +contextual only [go_sem,ak,sevalprocAttr]
 intro b T1 hb jt hTb b1 T2 jK sO fu pV b2 eG cr
 refine aJ fun he hM _=> ?_
 refine az (jt.trans fu) ?_
 refine ⟨_,rfl,FC ?_⟩
 exact df (l:=[x]) (fun _ _ h=>dY h) hM (cP (br he _ _ hx)) rfl (by decide)
theorem Jt {M:aV}(k:Int){x y:X}{cs ds:List Value}(hx:RX M x cs)(hy:RX M y ds):Ct Tryz.prog 193 [.int .i64 k,.agg ⟨cs⟩,.agg ⟨ds⟩] M [] [] (fun v M' _ _=>Ht (nB k [x,y]) v M') bj:=by
 intro T
 obtain ⟨s,rfl,h1,hs⟩:=cb hx
 obtain ⟨s',rfl,pm,oD⟩:=cb hy
 refine aT mx aaw Tryz.func193 rfl (by rw [akZ];exact Nat.le_of_ble_eq_true rfl) (dr:=Ys) (by kernel_rfl) aiG ?_
 intro bN _
 simp +contextual only [go_sem,ak,sevalprocAttr]
 intro b T1 hb jt hTb b1 T2 jK sO fu pV b2 T3 eG cr fD ju b3 fh bT
 refine aJ fun he hM _=> ?_
 refine az ((jt.trans fu).trans fD) ?_
 refine ⟨_,rfl,FC ?_⟩
 exact df (l:=[x,y]) (fun _ _ h=>dY h) hM (dx (cP (br he _ _ hx)) (cP (br he _ _ hy))) rfl (by decide)
structure Lvl where
 signs:List Bs
 kind:Int
 once:Bool
def Vi (M:aV)(l:Lvl)(cs:List Value):Prop:=∃ s,RS M pD 1 l.signs s/\(l.signs=[] ->s=.slice none 0 0)/\(l.signs≠[] ->∃ b n,s=.slice (some ⟨b,0,none⟩) n n)/\cs=[s,.int .i64 l.kind,.bool l.once]
theorem yA {M:aV}{l:Lvl}{cs}(h:Vi M l cs):cs.length=3:=by obtain ⟨_,_,_,_,rfl⟩:=h;rfl
def fo:List Lvl:=[⟨[[111,114]],5,false⟩,⟨[[97,110,100]],4,false⟩,⟨[],0,false⟩,⟨[[61],[60,62],[60],[60,61],[62],[62,61]],6,true⟩,⟨[[43],[45]],12,false⟩,⟨[[42]],14,false⟩,⟨[[124,124]],15,false⟩]
theorem rD {M:aV}{l:List Bs}{k:Int}{o:Bool}{b n:Nat}(h:M b=some (l.map st))(hl:l.length=n)(hn:n<=100)(dh:l≠[]):Vi M ⟨l,k,o⟩ [.slice (some ⟨b,0,none⟩) n n,.int .i64 k,.bool o]:=
 ⟨_,df (fun _ _=>cO) h (eQ l) hl (by omega),fun h=>(dh h).elim,fun _=>⟨b,n,rfl⟩,rfl⟩
theorem AW {M:aV}:Ct Tryz.prog 180 [] M [] [] (fun v M' _ _=>RS M' (Vi M') 3 fo v) bj:=by
 intro T
 refine aT mx abG Tryz.func180 rfl (by rw [ai2];exact Nat.le_of_ble_eq_true rfl) (dr:=Zz) (by kernel_rfl) aoo ?_
 intro bN _
 simp +contextual only [go_sem,ak,sevalprocAttr]
 intro b0 h0 b1 h1 a1 b2 h2 a2 b3 h3 a3 b4 h4 a4 b5 h5 a5 b6 h6 a6
 refine oS fun M' he hM=> ?_
 obtain ⟨k6,k5,k4,k3,k2,k1,k0,_⟩:=hM
 refine az aH.rfl' ?_
 refine df (l:=fo) (fun _ _ h=>yA h) k6 ?_ rfl (by decide)
 refine ⟨_,_,rfl,rD k0 rfl (by decide) (by decide),_,_,rfl,rD k1 rfl (by decide) (by decide),[_,_,_],_,rfl,⟨.slice none 0 0,⟨by decide,[],.inl ⟨none,0,rfl,rfl,fun _=>rfl⟩,rfl⟩,fun _=>rfl,fun h=>(h rfl).elim,rfl⟩,_,_,rfl,rD k2 rfl (by decide) (by decide),_,_,rfl,rD k3 rfl (by decide) (by decide),
  _,_,rfl,rD k4 rfl (by decide) (by decide),_,_,rfl,rD k5 rfl (by decide) (by decide),rfl⟩
def bJ:List Bs ->List Tk ->Option Nat
 | [],_=>none
 | s::l,t=>if bg s t=true then some 0 else (bJ l t).map (·+1)
def yN (o:Option Nat):Int:=match o with | some j=>j | none=> -1
def E0 (o:Option Nat)(t:List Tk):List Tk:=match o with | some _=>t.tail | none=>t
theorem up {M:aV}{pb:Nat}{aS:List Tk}{lv sv:Value}{en op:Int}{l:List Bs}(hl:RS M gT 3 aS lv)(hs:RS M pD 1 l sv):
 Ct Tryz.prog 192 [sv,.func (.func 94) #[.pointer (some ⟨pb,0,none⟩)] #[]] M (pL pb lv en op) []
  (fun v M' L' _=>v=.int .i64 (yN (bJ l aS))/\M'=M/\∃ lv',L'=pL pb lv' en op/\RS M gT 3 (E0 (bJ l aS) aS) lv') bj:=by
 intro T
 obtain ⟨hb,a,c,rfl,jo,_,eE⟩:=aI (by decide) (fun _ _=>cO) hs
 refine aT mx aa7 Tryz.func192 rfl (by rw [amK];exact Nat.le_of_ble_eq_true rfl) (dr:=X7) (by kernel_rfl) ahf ?_
 intro bN _
 simp only [aE] at bN
 simp +contextual only [go_sem,ak,sevalprocAttr]
 refine bh l.length 8 [(0,.slice a l.length c),(1,.func (.func 94) #[.pointer (some ⟨pb,0,none⟩)] #[]),(6,.slice a l.length c),(7,.int .i64 l.length)] (fun i e h=>(∃ lv',h=⟨T,M,pL pb lv' en op,[]⟩/\RS M gT 3 aS lv')/\bJ l aS=(bJ (l.drop i) aS).map (·+i)) 0 (by omega) (by simp only [aG,go_sem,ak,sevalprocAttr]) (by simp only [go_sem,ak,sevalprocAttr]) ⟨⟨lv,rfl,hl⟩,by simp⟩ ?_
 rintro i e h hi aD ht ⟨⟨lv',rfl,ns⟩,ay⟩
 simp only [aG] at aD
 by_cases aF:i<l.length
 ·obtain ⟨b,o,cs,rfl,cC,ff⟩:=eE i l[i] (List.getElem?_eq_getElem aF)
  unfold pD at ff;subst ff
  have hx:=cC.1
  rw [Nat.mul_one] at hx
  have bX:l.drop i=l[i]::l.drop (i+1):=List.drop_eq_getElem_cons aF
  rw [bX] at ay
  simp +contextual only [go_sem,ak,sevalprocAttr,aD,ht,aF,hx]
  refine jd [] l[i] ns (fun hs lv2 ft=> ?_) (fun hs lv2 ft=> ?_)
  ·simp +contextual only [go_sem,ak,sevalprocAttr,aD,ht]
   refine aM aH.rfl' rfl rfl ?_
   have:bJ l aS=some i:=by rw [ay];simp [bJ,hs]
   rw [this]
   exact ⟨rfl,rfl,lv2,rfl,ft⟩
  ·simp +contextual only [go_sem,ak,sevalprocAttr,aD,ht]
   refine bW aF ?_ ?_ ⟨⟨lv2,rfl,ft⟩,?_⟩
   ·simp only [aG,aD,go_sem,ak,sevalprocAttr]
   ·simp only [ht,go_sem,ak,sevalprocAttr,aC i (by omega)]
   ·rw [ay]
    simp only [bJ,hs,Bool.false_eq_true,if_false,Option.map_map]
    congr 1
    funext n
    simp only [Function.comp];omega
 ·have:i=l.length:=by omega
  subst this
  simp +contextual only [go_sem,ak,sevalprocAttr,aD,ht,aF]
  refine aM aH.rfl' rfl rfl ?_
  have:bJ l aS=none:=by rw [ay];simp [bJ]
  rw [this]
  exact ⟨rfl,rfl,lv',rfl,ns⟩
abbrev od:Bs:=[99,97,115,101]
abbrev pM:Bs:=[119,104,101,110]
abbrev rU:Bs:=[116,104,101,110]
abbrev vX:Bs:=[101,108,115,101]
abbrev Ob:Bs:=[101,110,100]
abbrev Lf:Bs:=[99,111,97,108,101,115,99,101]
abbrev pr:Bs:=[99,111,117,110,116]
abbrev tj:Bs:=[115,117,109]
abbrev tR:Bs:=[109,105,110]
abbrev uC:Bs:=[109,97,120]
abbrev lm:Bs:=[110,111,116]
abbrev NW:Bs:=[105,115]
abbrev dp:Bs:=[40]
abbrev cd:Bs:=[41]
abbrev ct:Bs:=[44]
abbrev gA:Bs:=[42]
abbrev AO:Bs:=[46]
abbrev qY:Bs:=[59]
def Rs.bind {α β:Type}(r:Rs α)(f:α ->List Tk ->Rs β):Rs β:=match r with
 | .ok a t=>f a t
 | .err e a=> .err e a
 | .out=> .out
section
variable {α β:Type} {T N:Tm} {M:aV} {R:RR} {dr:List (Nat×Sched)} {ts:List ResultVar} {post:eP} {pb:Nat} {lv0 lv:Value} {en op0 op:Int} {d:Option Nat} {s:List Vc.Item} {e:dN} {aS:List Tk} {L1:LL}
theorem cq {f:FuncId}{args:List Value}{enc:α ->Value ->aV ->Prop}{res:Rs β}{g:Rs α}{Fk:α ->List Tk ->Rs β}(L1:LL)(hT:aH T N)(hp:res=g.bind Fk)(dh:res≠ .out)
 (hc:g≠ .out ->ep Tryz.prog f args N M (pL pb lv en op) [] (fP pb en op enc g) (gM pb en g))
 (k:∀ v M' a r lv',bG M M' ->aB M' (L1++pL pb lv' en op) ->res=Fk a r ->RS M' gT 3 r lv' ->enc a v M' ->
  cB Tryz.prog (fi Tryz.prog T dr ts (bd (pL pb lv0 en op0)) 0 post (gM pb en res)) s (cV e d v) [] ⟨N,M',L1++pL pb lv' en op,R⟩ ⟨⟩):
 dT Tryz.prog (fi Tryz.prog T dr ts (bd (pL pb lv0 en op0)) 0 post (gM pb en res)) f args d s e [] ⟨N,M,L1++pL pb lv en op,R⟩ ⟨⟩:=by
 have hg:g≠ .out:=fun h=>dh (by rw [hp,h];rfl)
 refine sF L1 (hc hg) (fun v M' a r lv' hM bN ay hr he=>k v M' a r lv' hM bN (by rw [hp,ay];rfl) hr he) ?_
 intro c a M' lv' op' hM ay
 exact La L1 hT (by rw [hp,ay];rfl)
theorem eg {res:Rs β}{Fk:Unit ->List Tk ->Rs β}(L1:LL){x:Bs}{b:Nat}(hT:aH T N)(hp:res=(bY en [x] aS).bind Fk)(hl:RS M gT 3 aS lv)
 (k:∀ M' lv',bG M M' ->aB M' (L1++pL pb lv' en op) ->res=Fk () aS.tail ->RS M' gT 3 aS.tail lv' ->
  cB Tryz.prog (fi Tryz.prog T dr ts (bd (pL pb lv0 en op0)) 0 post (gM pb en res)) s (cV e d (.tuple #[])) [] ⟨N,M',L1++pL pb lv' en op,R⟩ ⟨⟩):
 dT Tryz.prog (fi Tryz.prog T dr ts (bd (pL pb lv0 en op0)) 0 post (gM pb en res)) 51 [.pointer (some ⟨pb,0,none⟩),.slice (some ⟨b,0,none⟩) 1 1] d s e [] ⟨N,M,(b,[.string (bs x)])::(L1++pL pb lv en op),R⟩ ⟨⟩:=by
 refine aW JY fun M1 aP hb bL=> ?_
 have gF:=aN aP (fun _ _ h=>h) hl
 have hs:RS M1 pD 1 [x] (.slice (some ⟨b,0,none⟩) 1 1):=df (fun _ _=>cO) hb (eQ [x]) rfl (by decide)
 refine sF L1 (vz gF hs N) ?_ ?_
 ·rintro v M' a r lv' hM bN ay hr rfl
  have Aj:r=aS.tail:=by
   simp only [bY] at ay
   split at ay
   ·injection ay with _ h;exact h.symm
   ·cases ay
  subst Aj
  exact k M' lv' (aP.trans hM) bN (by rw [hp,ay];rfl) hr
 ·intro c a M' lv' op' hM ay
  exact La L1 hT (by rw [hp,ay];rfl)
end
def ab9 (v:V):X:=.mk 1 v [] [] []
def gN (en:Int)(ex:List Tk ->Rs X)(aS:List Tk):Rs X:=
 (eS en aS).bind fun v t=>match v with
  | some v=> .ok (ab9 v) t
  | none=>
   if bg dp t=true then (ex t.tail).bind fun x t=>(bY en [cd] t).bind fun _ t=> .ok x t
   else if bg od t=true then (bY en [pM] t.tail).bind fun _ t=>(ex t).bind fun a t=>(bY en [rU] t).bind fun _ t=>(ex t).bind fun b t=>
    (bY en [vX] t).bind fun _ t=>(ex t).bind fun c t=>(bY en [Ob] t).bind fun _ t=> .ok (nB 17 [a,b,c]) t
   else if bg Lf t=true then (bY en [dp] t.tail).bind fun _ t=>(ex t).bind fun a t=>(bY en [ct] t).bind fun _ t=>(ex t).bind fun b t=>(bY en [cd] t).bind fun _ t=> .ok (nB 18 [a,b]) t
   else if bg pr t=true then (bY en [dp] t.tail).bind fun _ t=>
    if bg gA t=true then (bY en [cd] t.tail).bind fun _ t=> .ok (nB 19 []) t
    else (ex t).bind fun a t=>(bY en [cd] t).bind fun _ t=> .ok (nB 20 [a]) t
   else match bJ [tj,tR,uC] t with
    | some i=>(bY en [dp] t.tail).bind fun _ t=>(ex t).bind fun a t=>(bY en [cd] t).bind fun _ t=> .ok (nB (21+i) [a]) t
    | none=>(iE en t).bind fun n t=>if bg AO t=true then (iE en t.tail).bind fun m t=> .ok (.mk 2 ⟨0,0,[]⟩ n m []) t else .ok (.mk 2 ⟨0,0,[]⟩ [] n []) t
def Zq (en:Int)(pb:Nat)(ex:List Tk ->Rs X)(op:Int):Prop:=∀ (M:aV) (aS:List Tk) (lv:Value) (T:Tm),fO M ->RS M gT 3 aS lv ->ex aS≠ .out ->
 ep Tryz.prog 101 [.pointer (some ⟨pb,0,none⟩)] T M (pL pb lv en op) [] (fP pb en op Ht (ex aS)) (gM pb en (ex aS))
theorem adj {M:aV}(v:V):RX M (ab9 v) [.int .i64 1,.int .i64 v.k,.int .i64 v.n,st v.t,st [],st [],.slice none 0 0]:=
 tI.2 ⟨.slice none 0 0,rfl,Nat.zero_le _,[],.inl ⟨_,_,rfl,rfl,fun _=>rfl⟩,rfl⟩
theorem mq {M:aV}{x:X}{cs:List Value}(h:RX M x cs):∀ u∈cs,u.oneCell'=true:=by
 obtain ⟨s,rfl,h1,_⟩:=cb h
 intro u hu
 simp only [List.mem_cons,List.not_mem_nil,or_false] at hu
 rcases hu with rfl | rfl | rfl | rfl | rfl | rfl | rfl<;>first | rfl | exact h1
theorem PM {a b:List Value}{n:Nat}(ha:a.length+b.length=n)(hn:n<=4398046511104):a.length+b.length<=4398046511104:=by omega
theorem QU {M:aV}{pb:Nat}{aS:List Tk}{lv:Value}{en op:Int}{ex:List Tk ->Rs X}(hg:fO M)(hl:RS M gT 3 aS lv)(jb:Zq en pb ex op)(dh:gN en ex aS≠ .out)(T:Tm):
 ep Tryz.prog 190 [.pointer (some ⟨pb,0,none⟩)] T M (pL pb lv en op) [] (fP pb en op Ht (gN en ex aS)) (gM pb en (gN en ex aS)):=by
 refine aT mx abP Tryz.func190 rfl (by rw [aoJ];exact Nat.le_of_ble_eq_true rfl) (dr:=ZF) (by kernel_rfl) ahH ?_
 intro bN _
 simp only [aE] at bN
 simp +contextual only [go_sem,ak,sevalprocAttr]
 intro b2 T2 eG cr fu ju
 refine cq [(b2,_)] fu rfl dh (fun _=>yD hl T2) ?_
 intro v M1 o t lv1 aP bL ay gF hv
 have mC:=hg.ext aP
 simp only [List.cons_append,List.nil_append,aB,aE] at bL
 cases o with
 | some x=>
  simp only [QS] at hv;subst hv
  simp +contextual only [go_sem,ak,sevalprocAttr,bL,cr,V.cs]
  intro b3 T3 fh bT fD ja
  refine al (al (aM (fu.trans fD) rfl rfl ?_))
  exact ⟨ab9 x,t,lv1,ay,rfl,gF,rfl,_,rfl,adj x⟩
 | none=>
  simp only [QS] at hv;subst hv
  simp +contextual only [go_sem,ak,sevalprocAttr,bL,cr,V.cs]
  intro b3 T3 fh bT fD ja
  simp only at ay
  have hT:=fu.trans fD
  refine jd [(b3,_),(b2,_)] dp gF (fun hs lv2 ft=> ?_) (fun hs lv2 ft=> ?_)
  ·rw [if_pos hs] at ay
   simp +contextual only [go_sem,ak,sevalprocAttr]
   refine cq [(b3,_),(b2,_)] hT ay dh (fun h=>jb M1 _ lv2 T3 mC ft h) ?_
   rintro v M2 x t2 lv3 aX aQ ay fV ⟨cs,rfl,hx⟩
   obtain ⟨s,rfl,h1,_⟩:=cb hx
   simp only [List.cons_append,List.nil_append,aB,aE] at aQ
   simp +contextual only [go_sem,ak,sevalprocAttr,aQ,cr,bT,h1]
   intro b5 T5 jH eO tG zk b6 mB de
   refine eg [(b5,_),(b3,_),(b2,_)] (hT.trans tG) ay fV ?_
   intro M3 lv4 bD aZ ay jJ
   simp only [List.cons_append,List.nil_append,aB,aE] at aZ
   simp +contextual only [go_sem,ak,sevalprocAttr,aZ,cr,bT,eO,h1]
   refine al (al (al (aM (hT.trans tG) rfl rfl ?_)))
   exact ⟨x,_,lv4,ay,rfl,jJ,rfl,_,rfl,br bD _ _ hx⟩
  rw [if_neg (by simp [hs])] at ay
  clear hs
  simp +contextual only [go_sem,ak,sevalprocAttr]
  refine jd [(b3,_),(b2,_)] od ft (fun hs lv3 fV=> ?_) (fun hs lv3 fV=> ?_)
  ·rw [if_pos hs] at ay
   simp +contextual only [go_sem,ak,sevalprocAttr]
   intro b4 iR cN
   refine eg [(b3,_),(b2,_)] hT ay fV ?_
   intro M2 lv4 aX aQ ay jJ
   simp +contextual only [go_sem,ak,sevalprocAttr]
   refine cq [(b3,_),(b2,_)] hT ay dh (fun h=>jb M2 _ lv4 T3 (mC.ext aX) jJ h) ?_
   rintro v M3 x t2 lv5 bD aZ ay gj ⟨cs,rfl,hx⟩
   obtain ⟨s,rfl,h1,_⟩:=cb hx
   simp only [List.cons_append,List.nil_append,aB,aE] at aZ
   simp +contextual only [go_sem,ak,sevalprocAttr,aZ,cr,bT,h1]
   intro bk lh pT b6 T6 mB de u6 AC b7 km dj
   refine eg [(b6,_),(bk,_),(b3,_),(b2,_)] (hT.trans u6) ay gj ?_
   intro M4 lv6 ce bH ay gq
   simp only [List.cons_append,List.nil_append,aB,aE] at bH
   simp +contextual only [go_sem,ak,sevalprocAttr,bH,cr,bT,pT,de,h1]
   refine eR ⟨T,fun _=>none,[(b6,_)],[]⟩ (gn bH.1) ?_
   simp +contextual only [go_sem,ak,sevalprocAttr,bH,cr,bT,pT,de,h1]
   refine cq [(b6,_),(bk,_),(b3,_),(b2,_)] (hT.trans u6) ay dh (fun h=>jb M4 _ lv6 T6 (((mC.ext aX).ext bD).ext ce) gq h) ?_
   rintro v M5 y t3 lv7 dy bE ay nN ⟨cs,rfl,hy⟩
   obtain ⟨s',rfl,pm,_⟩:=cb hy
   simp only [List.cons_append,List.nil_append,aB,aE] at bE
   simp +contextual only [go_sem,ak,sevalprocAttr,bE,cr,bT,pT,de,pm]
   refine ⟨gn bE.1,?_⟩
   intro b8 sd fj
   refine ⟨rA bE.1 (fun h=>fj.1.2 h),?_⟩
   refine qE EP GU (.slice _ 1 _ _ _ Tryz.underlying25 (cT [] sd trivial rfl) (mq hy)) (cT [(b8,_),(b6,_)] bE.2.1 ⟨⟨fj.2.1.2,fj.2.1.1⟩,⟨de.1.2,de.1.1⟩,trivial⟩ rfl) (Nat.zero_lt_succ _) (PM (n:=14) rfl (by decide)) ?_
   intro ra rm rc ky
   have axk:=sd
   simp +contextual only [go_sem,ak,sevalprocAttr,bE,cr,bT,pT,de,fj]
   intro b9 rF je
   refine eg [(b8,_),(b6,_),(bk,_),(b3,_),(b2,_)] (hT.trans u6) ay nN ?_
   intro M6 lv8 dM bP ay r9
   simp only [List.cons_append,List.nil_append,aB,aE] at bP
   simp +contextual only [go_sem,ak,sevalprocAttr,bP,cr,bT,pT,de,fj]
   refine eR ⟨T,fun _=>none,[(b6,_)],[]⟩ (rA bP.2.1 (fun h=>fj.1.2 h)) ?_
   simp +contextual only [go_sem,ak,sevalprocAttr,bP,cr,bT,pT,de,fj]
   refine cq [(b8,_),(b6,_),(bk,_),(b3,_),(b2,_)] (hT.trans u6) ay dh (fun h=>jb M6 _ lv8 T6 ((((mC.ext aX).ext bD).ext ce).ext dy |>.ext dM) r9 h) ?_
   rintro v M7 z t4 lv9 iz fN ay Ec ⟨cs,rfl,hz⟩
   obtain ⟨s'',rfl,Tn,_⟩:=cb hz
   simp only [List.cons_append,List.nil_append,aB,aE] at fN
   simp +contextual only [go_sem,ak,sevalprocAttr,fN,cr,bT,pT,de,fj,Tn]
   refine ⟨dJ [(b8,_)] fN.2.1 ⟨⟨fj.1.2,fj.1.1⟩,trivial⟩,?_⟩
   intro ba hba Xz
   refine ⟨dJ [(ba,_),(b8,_)] fN.2.1 ⟨⟨Xz.2.1.2,Xz.2.1.1⟩,⟨fj.1.2,fj.1.1⟩,trivial⟩,?_⟩
   refine gi EP GU (.slice _ 1 _ _ _ Tryz.underlying25 (cT [] hba trivial rfl) (mq hz)) (PM (n:=21) rfl (by decide)) ?_
   intro ra' rm' rc' awE
   simp +contextual only [go_sem,ak,sevalprocAttr,fN,cr,bT,pT,de,fj,Xz]
   intro bb Uq mP
   refine eg [(ba,_),(b8,_),(b6,_),(bk,_),(b3,_),(b2,_)] (hT.trans u6) ay Ec ?_
   intro M8 lva jv gS ay hla
   simp only [List.cons_append,List.nil_append,aB,aE] at gS
   simp +contextual only [go_sem,ak,sevalprocAttr,gS,cr,bT,pT,de,fj,Xz]
   refine dn fun M9 lK mc j7=> ?_
   refine al (al (al (al (al (al (aM (hT.trans u6) rfl rfl ?_))))))
   have hx9:=br (((((ce.trans dy).trans dM).trans iz).trans jv).trans lK) _ _ hx
   have hy9:=br (((dM.trans iz).trans jv).trans lK) _ _ hy
   have hz9:=br (jv.trans lK) _ _ hz
   refine ⟨nB 17 [x,y,z],_,lva,ay,rfl,aN lK (fun _ _ h=>h) hla,rfl,_,rfl,FC ⟨by simp,_,j7,?_⟩⟩
   exact dx (cP hx9) (dx (cP hy9) (cP hz9))
  rw [if_neg (by simp [hs])] at ay
  clear hs
  simp +contextual only [go_sem,ak,sevalprocAttr]
  refine jd [(b3,_),(b2,_)] Lf fV (fun hs lv4 jJ=> ?_) (fun hs lv4 jJ=> ?_)
  ·rw [if_pos hs] at ay
   simp +contextual only [go_sem,ak,sevalprocAttr]
   intro b4 iR cN
   refine eg [(b3,_),(b2,_)] hT ay jJ ?_
   intro M2 lv5 aX aQ ay gj
   simp +contextual only [go_sem,ak,sevalprocAttr]
   refine cq [(b3,_),(b2,_)] hT ay dh (fun h=>jb M2 _ lv5 T3 (mC.ext aX) gj h) ?_
   rintro v M3 x t2 lv6 bD aZ ay gq ⟨cs,rfl,hx⟩
   obtain ⟨s,rfl,h1,_⟩:=cb hx
   simp only [List.cons_append,List.nil_append,aB,aE] at aZ
   simp +contextual only [go_sem,ak,sevalprocAttr,aZ,cr,bT,h1]
   intro b7 T7 km dj B6 Ol b6 mB de
   refine eg [(b7,_),(b3,_),(b2,_)] (hT.trans B6) ay gq ?_
   intro M4 lv7 ce bH ay nN
   simp +contextual only [go_sem,ak,sevalprocAttr]
   refine cq [(b7,_),(b3,_),(b2,_)] (hT.trans B6) ay dh (fun h=>jb M4 _ lv7 T7 (((mC.ext aX).ext bD).ext ce) nN h) ?_
   rintro v M5 y t3 lv8 dy bE ay r9 ⟨cs,rfl,hy⟩
   obtain ⟨s',rfl,pm,_⟩:=cb hy
   simp only [List.cons_append,List.nil_append,aB,aE] at bE
   simp +contextual only [go_sem,ak,sevalprocAttr,bE,cr,bT,dj,pm]
   intro b8 T8 sd fj rV z8 b9 rF je
   refine eg [(b8,_),(b7,_),(b3,_),(b2,_)] ((hT.trans B6).trans rV) ay r9 ?_
   intro M6 lv9 dM bP ay Ec
   simp only [List.cons_append,List.nil_append,aB,aE] at bP
   simp +contextual only [go_sem,ak,sevalprocAttr,bP,cr,bT,dj,fj,pm]
   refine am (Jt 18 (br ((ce.trans dy).trans dM) _ _ hx) (br dM _ _ hy) T8) ?_ (fun _ _ _ _ h=>h.elim)
   rintro v M7 iz fN ⟨cs,rfl,Uz⟩
   obtain ⟨s'',rfl,Tn,_⟩:=cb Uz
   simp only [List.cons_append,List.nil_append,aB,aE] at fN
   simp +contextual only [go_sem,ak,sevalprocAttr,fN,cr,bT,dj,fj,Tn]
   refine al (al (al (al (aM ((hT.trans B6).trans rV) rfl rfl ?_))))
   exact ⟨_,_,lv9,ay,rfl,aN iz (fun _ _ h=>h) Ec,rfl,_,rfl,Uz⟩
  rw [if_neg (by simp [hs])] at ay
  clear hs
  simp +contextual only [go_sem,ak,sevalprocAttr]
  refine jd [(b3,_),(b2,_)] pr jJ (fun hs lv5 gj=> ?_) (fun hs lv5 gj=> ?_)
  ·rw [if_pos hs] at ay
   simp +contextual only [go_sem,ak,sevalprocAttr]
   intro b4 iR cN
   refine eg [(b3,_),(b2,_)] hT ay gj ?_
   intro M2 lv6 aX aQ ay gq
   simp +contextual only [go_sem,ak,sevalprocAttr]
   refine jd [(b3,_),(b2,_)] gA gq (fun mU lv7 nN=> ?_) (fun mU lv7 nN=> ?_)
   ·rw [if_pos mU] at ay
    simp +contextual only [go_sem,ak,sevalprocAttr]
    intro b5 jH eO
    refine eg [(b3,_),(b2,_)] hT ay nN ?_
    intro M3 lv8 bD aZ ay r9
    simp only [List.cons_append,List.nil_append,aB,aE] at aZ
    simp +contextual only [go_sem,ak,sevalprocAttr,aZ,cr,bT]
    refine al (al (aM hT rfl rfl ?_))
    exact ⟨_,_,lv8,ay,rfl,r9,rfl,_,rfl,FC ⟨Nat.zero_le _,[],.inl ⟨_,_,rfl,rfl,fun _=>rfl⟩,rfl⟩⟩
   ·rw [if_neg (by simp [mU])] at ay
    simp +contextual only [go_sem,ak,sevalprocAttr]
    refine cq [(b3,_),(b2,_)] hT ay dh (fun h=>jb M2 _ lv7 T3 (mC.ext aX) nN h) ?_
    rintro v M3 x t2 lv8 bD aZ ay r9 ⟨cs,rfl,hx⟩
    simp +contextual only [go_sem,ak,sevalprocAttr]
    refine am (BG 20 hx T3) ?_ (fun _ _ _ _ h=>h.elim)
    rintro v M4 ce bH ⟨cs',rfl,Ak⟩
    obtain ⟨s,rfl,h1,_⟩:=cb Ak
    simp only [List.cons_append,List.nil_append,aB,aE] at bH
    simp +contextual only [go_sem,ak,sevalprocAttr,bH,cr,bT,h1]
    intro b7 T7 km dj B6 Ol b6 mB de
    refine eg [(b7,_),(b3,_),(b2,_)] (hT.trans B6) ay (aN ce (fun _ _ h=>h) r9) ?_
    intro M5 lv9 dy bE ay Ec
    simp only [List.cons_append,List.nil_append,aB,aE] at bE
    simp +contextual only [go_sem,ak,sevalprocAttr,bE,cr,bT,dj,h1]
    refine al (al (al (aM (hT.trans B6) rfl rfl ?_)))
    exact ⟨_,_,lv9,ay,rfl,Ec,rfl,_,rfl,br dy _ _ Ak⟩
  rw [if_neg (by simp [hs])] at ay
  clear hs
  simp +contextual only [go_sem,ak,sevalprocAttr]
  intro b4 iR cN
  refine bA 3 105 [(0,.pointer (some ⟨pb,0,none⟩)),(2,.pointer (some ⟨b2,0,none⟩)),(103,.slice (some ⟨b4,0,none⟩) 3 3),(104,.int .i64 3)]
   (fun i e h=>(∃ M' lv' cs3 cs2,bG M1 M'/\h=⟨T3,M',(b3,cs3)::(b2,cs2)::pL pb lv' en op,[]⟩/\cs2.length=7/\M' b4=some ([tj,tR,uC].map st)/\RS M' gT 3 t lv'/\M' b3=none/\M' b2=none/\M' pb=none)/\bJ [tj,tR,uC] t=(bJ ([tj,tR,uC].drop i) t).map (·+i))
   0 (by omega) (by simp only [aG,go_sem,ak,sevalprocAttr]) (by simp only [go_sem,ak,sevalprocAttr]) (aJ fun he hb bN=>aA ⟨⟨_,lv5,_,_,he,rfl,rfl,hb,aN he (fun _ _ h=>h) gj,bN.1,bN.2.1,by simpa only [aE] using bN.2.2⟩,by simp⟩) ?_
  rintro i e h hi aD ht ⟨⟨M2,lv6,cs3,cs2,aX,rfl,jR,hw,gq,AL,nJ,XZ⟩,ij⟩
  simp only [aG] at aD
  obtain ⟨q0,q1,q2,q3,q4,q5,q6,rfl⟩:=DH jR
  have BB:=mC.ext aX
  by_cases aF:i<3
  ·have bX:[tj,tR,uC].drop i=[tj,tR,uC][i]::[tj,tR,uC].drop (i+1):=List.drop_eq_getElem_cons aF
   rw [bX] at ij
   have hx:aL M2 ⟨b4,i,none⟩=some (st [tj,tR,uC][i]):=by
    rw [aY hw,List.getElem?_map,List.getElem?_eq_getElem aF]
    rfl
   have O6:(i:Int)<3:=by omega
   simp +contextual only [go_sem,ak,sevalprocAttr,aD,ht,aF,O6,hx]
   refine jd [(b3,_),(b2,_)] [tj,tR,uC][i] gq (fun hs lv7 nN=> ?_) (fun hs lv7 nN=> ?_)
   ·have Hn:bJ [tj,tR,uC] t=some i:=by rw [ij];simp [bJ,hs]
    rw [Hn] at ay
    simp only at ay
    simp +contextual only [go_sem,ak,sevalprocAttr,aD,ht]
    intro b5 jH eO
    refine eg [(b3,_),(b2,_)] hT ay nN ?_
    intro M3 lv8 bD aZ ay r9
    simp +contextual only [go_sem,ak,sevalprocAttr,aD,ht]
    refine cq [(b3,_),(b2,_)] hT ay dh (fun h=>jb M3 _ lv8 T3 (BB.ext bD) r9 h) ?_
    rintro v M4 x t2 lv9 ce bH ay Ec ⟨cs,rfl,hx⟩
    have Jk:IntKind.i64.wrap (21+(i:Int))=21+(i:Int):=eZ (by omega) (by omega)
    simp +contextual only [go_sem,ak,sevalprocAttr,Jk]
    refine am (BG (21+(i:Int)) hx T3) ?_ (fun _ _ _ _ h=>h.elim)
    rintro v M5 dy bE ⟨cs',rfl,Hj⟩
    obtain ⟨s,rfl,h1,_⟩:=cb Hj
    simp only [List.cons_append,List.nil_append,aB,aE] at bE
    simp +contextual only [go_sem,ak,sevalprocAttr,bE,cr,bT,h1,aD]
    intro b7 T7 km dj B6 Ol b6 mB de
    refine eg [(b7,_),(b3,_),(b2,_)] (hT.trans B6) ay (aN dy (fun _ _ h=>h) Ec) ?_
    intro M6 lva dM bP ay hla
    simp only [List.cons_append,List.nil_append,aB,aE] at bP
    simp +contextual only [go_sem,ak,sevalprocAttr,bP,cr,bT,dj,h1,aD]
    refine al (al (al (aM (hT.trans B6) rfl rfl ?_)))
    exact ⟨_,_,lva,ay,rfl,hla,rfl,_,rfl,br dM _ _ Hj⟩
   ·simp +contextual only [go_sem,ak,sevalprocAttr,aD,ht]
    refine bW aF ?_ ?_ ⟨⟨M2,lv7,cs3,_,aX,rfl,rfl,hw,nN,AL,nJ,XZ⟩,?_⟩
    ·simp only [aG,aD,go_sem,ak,sevalprocAttr]
    ·simp only [ht,go_sem,ak,sevalprocAttr,aC i (by omega)]
    ·rw [ij]
     simp only [bJ,hs,Bool.false_eq_true,if_false,Option.map_map]
     congr 1
     funext n
     simp only [Function.comp];omega
  ·have:i=3:=by omega
   subst this
   have Hn:bJ [tj,tR,uC] t=none:=by rw [ij];rfl
   rw [Hn] at ay
   simp only at ay
   have UX:¬ ((3:Nat):Int)<3:=by omega
   simp +contextual only [go_sem,ak,sevalprocAttr,aD,ht,UX]
   refine cq [(b3,_),(b2,_)] hT ay dh (fun _=>iK BB gq T3) ?_
   rintro v M3 n t2 lv7 bD aZ ay nN rfl
   simp +contextual only [go_sem,ak,sevalprocAttr,aD]
   refine jd [(b3,_),(b2,_)] AO nN (fun hs lv8 r9=> ?_) (fun hs lv8 r9=> ?_)
   ·rw [if_pos hs] at ay
    simp +contextual only [go_sem,ak,sevalprocAttr,aD]
    refine cq [(b3,_),(b2,_)] hT ay dh (fun _=>iK (BB.ext bD) r9 T3) ?_
    rintro v M4 m t3 lv9 ce bH ay Ec rfl
    simp only [List.cons_append,List.nil_append,aB,aE] at bH
    simp +contextual only [go_sem,ak,sevalprocAttr,bH,aD,cr,bT]
    refine al (al (aM hT rfl rfl ?_))
    exact ⟨_,_,lv9,ay,rfl,Ec,rfl,_,rfl,tI.2 ⟨_,rfl,Nat.zero_le _,[],.inl ⟨_,_,rfl,rfl,fun _=>rfl⟩,rfl⟩⟩
   ·rw [if_neg (by simp [hs])] at ay
    simp only [List.cons_append,List.nil_append,aB,aE] at aZ
    simp +contextual only [go_sem,ak,sevalprocAttr,aZ,aD,cr,bT]
    refine al (al (aM hT rfl rfl ?_))
    exact ⟨_,_,lv8,ay,rfl,r9,rfl,_,rfl,tI.2 ⟨_,rfl,Nat.zero_le _,[],.inl ⟨_,_,rfl,rfl,fun _=>rfl⟩,rfl⟩⟩
end Go.Proofs.YtmccpbcbofhmlaaGreatDoor
