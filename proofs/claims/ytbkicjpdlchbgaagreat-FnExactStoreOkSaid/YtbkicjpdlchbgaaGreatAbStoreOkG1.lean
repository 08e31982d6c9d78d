import Derived.Test.YtbkicjpdlchbgaaGreatAbK2
import Derived.Test.YtbkicjpdlchbgaaGreatAbF4
import Derived.Test.YtbkicjpdlchbgaaGreatAbS1
import Derived.KernelRfl
import Derived.Test.YtbkicjpdlchbgaaGreatProg
namespace Go.Proofs.YtbkicjpdlchbgaaGreat.Ab
open Go
set_option linter.unusedVariables false
noncomputable section
abbrev r4y:Ty:=(.pair .str .str)
abbrev o6w:Ty:=(.pair .str .bool)
abbrev u2v:Ty:=(.pair .str o6w)
abbrev o6t:Ty:=(.pair .bool .str)
abbrev p2v:Ty:=(.pair (.sl u2v) o6t)
abbrev q0n:Ty:=(.pair (.sl r4y) p2v)
abbrev r5k:Ty:=(.pair (.int .i64) q0n)
abbrev r2j:Ty:=(.pair (.int .i64) r5k)
abbrev s8o:Ty:=(.pair (.int .i64) r2j)
abbrev u0a:Ty:=(.pair (.int .i64) s8o)
abbrev o6s:Ty:=(.pair .bool (.int .i64))
abbrev o2f:Ty:=(.pair .str o6s)
abbrev u0d:Ty:=(.pair .str o2f)
abbrev q6y:Ty:=(.pair (.int .i64) .str)
abbrev o6v:Ty:=(.pair (.int .i64) (.int .i64))
abbrev t7q:Ty:=(.pair (.sl u0a) o6v)
abbrev p6i:Ty:=(.pair (.sl u0a) t7q)
abbrev q1y:Ty:=(.pair (.sl u0d) p6i)
abbrev q98:Ty:=(.pair q1y (.sl u0a))
abbrev p3x:Ty:=(.pair (.sl .str) (.sl q6y))
abbrev p6g:Ty:=(.pair q98 p3x)
abbrev p6e:Ty:=(.pair .bool q1y)
abbrev p6j:Ty:=(.pair .str p6e)
abbrev p6h:Ty:=(.pair u0a p6j)
abbrev p6f:Ty:=(.pair (.int .i64) p6h)
abbrev o6u:Ty:=(.pair (.int .i64) .bool)
abbrev p9u:Ty:=(.pair .str o6u)
abbrev s8p:=((List ByteArray)×(List q6y.den))
abbrev o30:=((List r4y.den)×(List u2v.den))
abbrev o6b:=((List ByteArray)×(List ByteArray))
abbrev o3z:=((ByteArray×ByteArray)×ByteArray)
abbrev o6a:=((List u2v.den)×(List u2v.den))
abbrev o59:=((Int×ByteArray)×(Int×ByteArray))
abbrev o3y:=(ByteArray×(ByteArray×(Int×Bool)))
abbrev p74:=(ByteArray×(ByteArray×(Bool×Int)))
abbrev o58:=((ByteArray×(ByteArray×Bool))×Int)
abbrev o57:=(ByteArray×(Int×(Int×(Int×Int))))
abbrev p9x:=((List u0d.den)×(ByteArray×Int))
abbrev o56:=((List Int)×((List Int)×(Int×Int)))
abbrev p9w:=(List (List u0a.den))
abbrev o1t:=((List r4y.den)×((List r4y.den)×Int))
abbrev o3x:=((List u0d.den)×(List u0d.den))
abbrev o3w:=((List q6y.den)×((List q6y.den)×Int))
abbrev p73:=((List u0a.den)×Int)
abbrev o55:=(Int×s8p)
abbrev q2b:=(s8p×Int)
abbrev o3v:=((List ByteArray)×((List ByteArray)×Int))
abbrev o3u:=((List r4y.den)×((List u2v.den)×Int))
abbrev o3t:=((List u2v.den)×((List u2v.den)×Int))
abbrev o54:=((List u0d.den)×(ByteArray×ByteArray))
abbrev o53:=((List Int)×((List ByteArray)×(Int×Int)))
abbrev o52:=(p74×Int)
abbrev o1s:=((List u0a.den)×ByteArray)
abbrev o3s:=((List u0d.den)×((List u2v.den)×Int))
abbrev o51:=(p9w×Int)
abbrev p8e:=((List u0d.den)×((List u0d.den)×Int))
abbrev o50:=((List r4y.den)×((List r4y.den)×(Int×Int)))
abbrev o3r:=(Int×o3x)
abbrev o5z:=((ByteArray×ByteArray)×(ByteArray×ByteArray))
abbrev o5y:=((List u0d.den)×(Int×(List u0d.den)))
abbrev p8d:=((List u0a.den)×(Int×Int))
abbrev o3q:=(s8p×(Int×Int))
abbrev o5x:=(Int×q2b)
abbrev o5w:=((List r4y.den)×((List u2v.den)×(Int×Int)))
abbrev o3p:=((List u2v.den)×((List r4y.den)×(Int×Int)))
abbrev o5v:=(Int×(ByteArray×((List q6y.den)×(Int×Int))))
abbrev o3o:=((List u0d.den)×((ByteArray×ByteArray)×Int))
abbrev o5u:=((List u2v.den)×((List u2v.den)×(Int×Int)))
abbrev o5t:=((List ByteArray)×((List u0d.den)×(Int×Int)))
abbrev o5s:=((List u2v.den)×(Int×((List u0d.den)×Int)))
abbrev o5r:=((List u0a.den)×(ByteArray×Int))
abbrev o5q:=(ByteArray×(Int×((List u0d.den)×(Int×Int))))
abbrev o5p:=((List u0d.den)×(ByteArray×(Int×(Int×Int))))
abbrev o3n:=((List u0d.den)×((List u0d.den)×(Int×Int)))
abbrev o5o:=(Int×p8e)
abbrev o3m:=((List u0a.den)×(Int×(Int×Int)))
abbrev o5n:=((List u0d.den)×(Int×((List u0d.den)×Int)))
abbrev o2i:=(Int×p8d)
abbrev o5m:=((List u0d.den)×p74)
abbrev o1r:=((List u0a.den)×(ByteArray×(Int×Int)))
abbrev o5l:=(Int×((List u0d.den)×((List u2v.den)×(Int×Int))))
abbrev o3l:=((ByteArray×(Int×Bool))×(List u0a.den))
abbrev o5k:=((List u0d.den)×((List (List u0d.den))×(Int×Int)))
abbrev o5j:=((List u0a.den)×(ByteArray×(Int×Bool)))
abbrev o4u:=(Int×o3n)
abbrev o5i:=((ByteArray×(ByteArray×Bool))×(ByteArray×(ByteArray×Bool)))
abbrev o5h:=(s8p×((List q6y.den)×(Int×Int)))
abbrev o5g:=(s8p×((List ByteArray)×(Int×Int)))
abbrev o3k:=((List Int)×(p9w×(Int×Int)))
abbrev o5f:=(Int×(Int×(s8p×(ByteArray×Int))))
abbrev o5e:=(Int×(Int×(s8p×((List Int)×Int))))
abbrev o5d:=(Int×((List u0d.den)×((List u0d.den)×(Int×(Int×Int)))))
abbrev o2h:=((List u0a.den)×(List u0a.den))
abbrev o5c:=((List u0d.den)×(Int×((List r4y.den)×((List ByteArray)×Int))))
abbrev Z99:=((List u0d.den)×((ByteArray×ByteArray)×(Int×(List ByteArray))))
abbrev Z98:=((List u0d.den)×((ByteArray×ByteArray)×((List ByteArray)×Int)))
abbrev Z97:=(s8p×s8p)
abbrev Z96:=((List u0d.den)×(p74×(Int×Int)))
abbrev Z95:=((List (List u0d.den))×(Int×((List (List u0d.den))×(Int×Int))))
abbrev Z94:=((List u0a.den)×p73)
abbrev Z93:=((List u0a.den)×((List u0a.den)×Unit))
abbrev Z92:=(p74×p74)
abbrev Z91:=((List u0d.den)×((List u0d.den)×(Int×((ByteArray×ByteArray)×Int))))
abbrev Z90:=((List u0d.den)×(ByteArray×(Int×(Int×((List u0d.den)×(Int×Int))))))
abbrev Z89:=((ByteArray×(Int×Bool))×o2i)
abbrev Z88:=((List u0a.den)×p8d)
abbrev Z87:=((List u0d.den)×o4u)
abbrev Z86:=(Int×(o3x×((List u0d.den)×(Int×Int))))
abbrev Z85:=(Int×((List u0d.den)×o3n))
abbrev Z84:=(Int×(Int×(Int×(Int×((List r4y.den)×((List u2v.den)×(Bool×ByteArray)))))))
abbrev Z83:=(Int×(s8p×(ByteArray×((List ByteArray)×(Int×Int)))))
abbrev Z82:=((List u0a.den)×(p9w×(Int×Int)))
abbrev Z81:=((List u0a.den)×o2i)
abbrev Z80:=(Z84×Int)
abbrev Z79:=((List u0a.den)×(Unit×p8d))
abbrev Z78:=(Z84×ByteArray)
abbrev Z77:=(Z84×(List Int))
abbrev Z76:=(Z84×(Int×Bool))
abbrev Z75:=((List u0d.den)×((ByteArray×ByteArray)×((List ByteArray)×(Int×(ByteArray×(List ByteArray))))))
abbrev Z74:=((List u0d.den)×(Int×((ByteArray×ByteArray)×((List r4y.den)×((List ByteArray)×(Int×Int))))))
abbrev Z73:=(p9w×(Int×(p9w×(Int×Int))))
abbrev Z72:=(Z84×(ByteArray×Int))
abbrev Z71:=((List u0d.den)×Z88)
abbrev Z70:=(Int×(s8p×((List ByteArray)×(ByteArray×((List ByteArray)×(Int×Int))))))
abbrev Z69:=((List u0d.den)×((ByteArray×ByteArray)×((List ByteArray)×(Int×(ByteArray×((List ByteArray)×Int))))))
abbrev Z68:=((List u2v.den)×((ByteArray×ByteArray)×((List r4y.den)×(Int×(Int×((List u2v.den)×(Int×Int)))))))
abbrev Z67:=(Z84×(ByteArray×(Int×Bool)))
abbrev Z66:=((ByteArray×(Int×Bool))×Z84)
abbrev Z65:=(Z71×Int)
abbrev Z64:=(Z71×Bool)
abbrev Z63:=(Z84×((List r4y.den)×(Int×Int)))
abbrev Z62:=(Z71×ByteArray)
abbrev Z61:=((List Int)×(p9w×(Int×o2i)))
abbrev Z60:=(Z71×(List Int))
abbrev Z59:=((ByteArray×(Int×Bool))×(Unit×Z84))
abbrev Z58:=((List u0a.den)×Z84)
abbrev Z57:=((ByteArray×(Int×Bool))×(Z84×Unit))
abbrev Z56:=(Z71×(Int×Bool))
abbrev Z55:=(Z84×(List u0a.den))
abbrev Z54:=((List u2v.den)×(Int×((List u0d.den)×(Int×(p74×((List u0d.den)×Int))))))
abbrev Z53:=(Z71×(ByteArray×Int))
abbrev Z52:=(ByteArray×Z65)
abbrev Z51:=(Z71×((List Int)×Int))
abbrev Z50:=((List u0a.den)×Z80)
abbrev Z49:=(Z84×((List Int)×((List r4y.den)×(Int×Int))))
abbrev Z48:=(Z84×((List Int)×((List u2v.den)×(Int×Int))))
abbrev Z47:=(Z71×((List Int)×(Int×Int)))
abbrev Z46:=(Z71×(ByteArray×(Int×Bool)))
abbrev Z45:=((ByteArray×(Int×Bool))×Z71)
abbrev Z44:=((List u0a.den)×(Z84×(Int×Int)))
abbrev Z43:=((ByteArray×(Int×Bool))×((Unit×Z84)×(Int×Int)))
abbrev Z42:=((ByteArray×(Int×Bool))×((Z84×Unit)×(Int×Int)))
abbrev Z41:=((ByteArray×(Int×Bool))×(Unit×Z71))
abbrev Z40:=(Z71×(List u0a.den))
abbrev Z39:=((ByteArray×(Int×Bool))×(Z71×Unit))
abbrev Z38:=(Z71×((List u0d.den)×(Int×Int)))
abbrev Z37:=(Z40×Int)
abbrev Z36:=(Z71×((List Int)×((List u0d.den)×(Int×Int))))
abbrev Z35:=(Z71×p8d)
abbrev Z34:=((ByteArray×(Int×Bool))×((Z71×Unit)×(Int×Int)))
abbrev Z33:=((ByteArray×(Int×Bool))×((Unit×Z71)×(Int×Int)))
abbrev Z32:=(Z84×Z84)
abbrev Z31:=(Z40×s8p)
abbrev Z30:=(Z31×Int)
abbrev Z29:=(Z40×p8d)
abbrev Z28:=(Z71×Z84)
abbrev Z27:=(Z84×Z66)
abbrev Z26:=(Z71×Z78)
abbrev Z25:=(Z71×Z71)
abbrev Z24:=(Z84×((ByteArray×(Int×Bool))×(Z84×(Int×Int))))
abbrev Z23:=(Int×(Z84×(ByteArray×(Bool×Z71))))
abbrev Z22:=(Z23×Bool)
abbrev Z21:=(Z40×(Int×Z84))
abbrev Z20:=(Z71×(Z71×((List ByteArray)×Int)))
abbrev Z19:=(Z71×Z45)
abbrev Z18:=(Z40×(Int×Z80))
abbrev Z17:=(Z71×(Z71×((List ByteArray)×(Int×Int))))
abbrev Z16:=(Z71×((ByteArray×(Int×Bool))×(Z71×(Int×Int))))
abbrev Z15:=(Z40×Z40)
abbrev Z14:=(Z84×Z25)
abbrev Z13:=(Z71×Z23)
abbrev Z12:=(Z71×(Z71×Z65))
abbrev Z11:=(Z71×(Z71×(Z71×(Int×Int))))
abbrev Z10:=(ByteArray×Z12)
abbrev Z9:=(Z31×Z31)
abbrev Z8:=(Z84×(Z71×Z28))
abbrev Z7:=(Z84×(Z71×(Z71×(Z84×(Unit×(Int×Int))))))
abbrev Z6:=(ByteArray×(Z71×(Z84×(Z71×Z65))))
abbrev Z5:=(Z84×(Z71×(Z71×(Z84×o2h))))
abbrev Z4:=(ByteArray×(Z84×(Z71×(Z71×(Z84×((List u0a.den)×((List u0a.den)×(Unit×(Int×Int)))))))))
abbrev Z3:=(Z71×(Z84×(Z71×(Z71×Z80))))
abbrev Z2:=(ByteArray×(Z71×Z8))
abbrev Z1:=(ByteArray×Z3)
def o6h:Tabs where
 ty:= [(3,(.int .i64)),(4, .bool),(5,(.int .u8)),(9, .str),(22,(.sl (.int .u8))),(24,(.sl u0d)),(25,(.sl u0a)),(27,q1y),(29,q98),(30,(.sl .str)),(31,(.sl q6y)),(33,p3x),(35,p6g),(51,u2v),(58,(.sl (.int .i64))),(67,(.sl u0d)),(68,(.sl u0a)),(73,(.sl q6y)),(85,(.sl r4y)),(86,(.sl u2v)),(88,u0a),(90,p6f),(97,(.sl r4y)),(100,r4y),(155,u0d),(167,r4y),(203,p9u),(210,p9u),(217,(.sl (.sl u0a))),(266,(.sl r4y)),(267,(.sl u2v)),(269,u0a),(275,(.int .u32)),(307,q6y),(316,(.sl (.sl u0d))),(339,q6y),(354,r4y),(356,u2v),(377,u0d)]
 lay:= [(3,1,false),(4,1,false),(9,1,false),(22,1,false),(24,1,false),(25,1,false),(27,5,true),(29,6,true),(30,1,false),(31,1,false),(33,2,true),(35,8,true),(51,3,true),(67,1,false),(68,1,false),(70,5,true),(72,6,true),(73,1,false),(75,2,true),(77,8,true),(85,1,false),(86,1,false),(88,8,true),(90,16,true),(100,2,true),(155,4,true),(167,2,true),(201,1,false),(266,1,false),(267,1,false),(269,8,true),(307,2,true),(339,2,true),(354,2,true),(356,3,true),(377,4,true)]
 fld:= [(27, [(0,1,false),(1,1,false),(2,1,false),(3,1,false),(4,1,false)]),(29, [(0,5,true),(5,1,false)]),(33, [(0,1,false),(1,1,false)]),(35, [(0,6,true),(6,2,true)]),(51, [(0,1,false),(1,1,false),(2,1,false)]),(70, [(0,1,false),(1,1,false),(2,1,false),(3,1,false),(4,1,false)]),(72, [(0,5,true),(5,1,false)]),(75, [(0,1,false),(1,1,false)]),(77, [(0,6,true),(6,2,true)]),(88, [(0,1,false),(1,1,false),(2,1,false),(3,1,false),(4,1,false),(5,1,false),(6,1,false),(7,1,false)]),(90, [(0,1,false),(1,8,true),(9,1,false),(10,1,false),(11,5,true)]),(100, [(0,1,false),(1,1,false)]),(155, [(0,1,false),(1,1,false),(2,1,false),(3,1,false)]),(167, [(0,1,false),(1,1,false)]),(196, [(0,1,false)]),(203, [(0,1,false),(1,1,false),(2,1,false)]),(210, [(0,1,false),(1,1,false),(2,1,false)]),(269, [(0,1,false),(1,1,false),(2,1,false),(3,1,false),(4,1,false),(5,1,false),(6,1,false),(7,1,false)]),(307, [(0,1,false),(1,1,false)]),(339, [(0,1,false),(1,1,false)]),(354, [(0,1,false),(1,1,false)]),(356, [(0,1,false),(1,1,false),(2,1,false)]),(377, [(0,1,false),(1,1,false),(2,1,false),(3,1,false)])]
 eqs:= [(167, [.s, .s])]
 tz:= [(196,(.sl (.int .u8)))]
abbrev zL (a:List Nat) (s:Sh) (n:Nat) (b:List Nat) (t:Sh) (c:List Nat) (u:Sh):LoopA:=⟨⟨a,s, []⟩,n,⟨b,t, []⟩,⟨c,u, []⟩⟩
def zS (i o:Sh) (n:Nat:=1) (b:List Bool:= []):Sig:=⟨i,b,o,n⟩
abbrev o62:Ty:=.sl u0a
abbrev o36:Ty:=.int .u8
abbrev o1e:Ty:=.int .i64
abbrev o63:Ty:=.sl u0d
abbrev u1g:Sh:=.int .i64
abbrev s8t:Sh:=.tr false u0a
abbrev t8f:Sh:=.pair u1g u1g
abbrev r7x:Sh:=.own true u0a
abbrev s5f:Sh:=.tr false u0d
abbrev o3a:Sh:=.pair .str (.pair .str (.pair .bool u1g))
abbrev q1k:Sh:=.own true u0d
abbrev o29:Sh:=.pair q1k (.pair r7x (.pair r7x t8f))
abbrev q7w:Sh:=.tr false u2v
abbrev s8u:Sh:=.box o29
abbrev q4v:Sh:=.pair .str .bool
abbrev q7x:Sh:=.box (.own true o36)
abbrev q4w:Sh:=.own true .str
abbrev q4x:Sh:=.tr false r4y
abbrev o4c:Sh:=.pair u1g (.pair u1g (.pair u1g (.pair u1g (.pair q4x (.pair q7w (.pair .bool .str))))))
abbrev o44:Sh:=.pair .str .str
abbrev p3v:Sh:=.pair .str u1g
abbrev q0j:Sh:=.agg o4c
abbrev q1u:Sh:=.box o4c
abbrev o4e:Sh:=.rbox (.ref 0)
abbrev o1j:Sh:=.pair u1g .bool
abbrev s0p:Sh:=.box (.pair .str o1j)
abbrev p2i:Sh:=.agg o29
abbrev o1k:Sh:=.agg (.pair .str q4v)
abbrev p6a:Sh:=.tr false .str
abbrev o0e:Sh:=.tr true u0d
abbrev p70:Sh:=.pair s8t t8f
abbrev o4d:Sh:=.pair s5f (.pair s8t p70)
abbrev o1h:Sh:=.agg (.pair u1g (.pair o4c (.pair .str (.pair .bool o4d))))
abbrev o1i:Sh:=.pair o4d s8t
abbrev q0k:Sh:=.agg o4d
abbrev q1l:Sh:=.box o4d
abbrev p71:Sh:=.rbox o4c
abbrev p72:Sh:=.tr false q6y
abbrev o43:Sh:=.pair p6a p72
abbrev p2h:Sh:=.agg o43
abbrev o1l:Sh:=.agg (.pair o1i o43)
abbrev p9t:Sh:=.pair p2h u1g
abbrev p6b:Sh:=.int .u32
abbrev p78:Sh:=.own true r4y
abbrev o1g:Sh:=.pair u1g (.pair u1g (.pair u1g (.pair u1g (.pair p78 (.pair (.own true u2v) (.pair .bool .str))))))
abbrev q92:Sh:=.box o1g
abbrev p4w:Sh:=.agg o44
abbrev o0f:Sh:=.pair s5f t8f
abbrev o3b:Sh:=.tr false o62
abbrev p55:Sh:=.box o43
abbrev o3c:Sh:=.agg (.pair u1g .str)
abbrev o1m:Sh:=.pair s5f u1g
abbrev o1n:Sh:=.pair q0j q0j
abbrev o1o:Sh:=.pair q7w u1g
abbrev o4f:Sh:=.pair u1g (.own true o36)
abbrev o6l:Sh:=.pair (.agg (.pair u1g (.pair o1g (.pair .str (.pair .bool o29))))) .bool
abbrev o1p:Sh:=.rbox s0p
abbrev o45:Sh:=.own false u0a
abbrev o18:Sh:=.pair u1g t8f
abbrev o2a:Sh:=.pair s8u o4e
abbrev o2b:Sh:=.pair q7w t8f
abbrev o2c:Sh:=.pair q4x t8f
abbrev o4g:Sh:=.clo 237 (.rbox u1g)
abbrev o4h:Sh:=.clo 280 (.rbox .str)
abbrev o3d:Sh:=.pair r7x u1g
abbrev o3e:Sh:=.pair s8u s8u
abbrev o46:Sh:=.pair s8u (.pair s8u u1g)
abbrev o0g:Sh:=.agg o3a
abbrev o47:Sh:=.pair s8t (.clo 289 p71)
abbrev o48:Sh:=.clo 299 (.pair o4e s8u)
abbrev o49:Sh:=.clo 302 (.pair q92 o4e)
abbrev o5a:Sh:=.clo 303 (.pair o4e q92)
abbrev o5b:Sh:=.pair s8t (.clo 386 p71)
abbrev o3f:Sh:=.tr false o63
abbrev o3g:Sh:=.own true q6y
abbrev o6m:Sh:=.pair (.box o1i) (.pair u1g (.pair q1u u1g))
abbrev o2d:Sh:=.tr true .str
abbrev o4i:Sh:=.pair p2i .bool
abbrev o4j:Sh:=.pair s8t u1g
abbrev o4k:Sh:=.pair u1g o1j
abbrev o4l:Sh:=.pair s8u o1p
abbrev o4m:Sh:=.pair q0k .str
abbrev o4n:Sh:=.pair q0k s8t
abbrev o4o:Sh:=.pair s5f p3v
abbrev o4p:Sh:=.pair q4w o1j
abbrev o4q:Sh:=.pair o3b t8f
abbrev o4r:Sh:=.pair p6b p3v
abbrev o6n:Sh:=.pair q1u (.pair s8u (.pair s8u q92))
abbrev o3h:Sh:=.pair q4w u1g
abbrev o3i:Sh:=.pair q1k u1g
abbrev o6k:Sh:=.pair q7w (.pair u1g (.pair o0e (.pair u1g (.pair (.box o3a) o3i))))
abbrev o6o:Sh:=.pair q92 (.pair s0p (.pair q92 t8f))
abbrev o6p:Sh:=.clo 239 (.pair (.box s5f) (.box s5f))
abbrev o6q:Sh:=.pair q1l (.pair (.own true o1e) u1g)
abbrev o6r:Sh:=.pair q1l (.pair (.tr true o1e) u1g)
abbrev o2e:Sh:=.agg o1i
abbrev o1q:Sh:=.box o44
abbrev o6j:Sh:=.pair s5f (.pair o1q (.pair o2d (.pair u1g (.pair .str o3h))))
def o00:Nat→Sig
 | 125=>zS q0j .bool
 | 289=>zS (.pair q0j p71) .bool
 | 10005=>zS o47 u1g
 | 10004=>zS o47 .bool
 | 10003=>zS o47 .bool
 | 163=>zS o4j .bool
 | 290=>zS (.pair .nil u1g) r7x
 | 164=>zS o3b o45
 | 205=>zS o18 .bool
 | 142=>zS .str .bool
 | 208=>zS p4w .bool
 | 157=>zS o1k .bool
 | 291=>zS q7w .bool
 | 165=>zS q0j .bool
 | 195=>zS q0j .bool
 | 433=>zS .str .bool
 | 372=>zS o44 u1g
 | 434=>zS u1g .bool
 | 373=>zS t8f u1g
 | 256=>zS (.pair o0g o0g) u1g
 | 204=>zS s5f .bool
 | 76=>zS q0k .bool
 | 312=>zS u1g q4v 2
 | 294=>zS .str q4v 2
 | 167=>zS (.pair q7x p6a) q7x 0 [true,false]
 | 168=>zS (.pair q7x .bool) q7x 0 [true,false]
 | 184=>zS (.pair q7x (.tr false o1e)) q7x 0 [true,false]
 | 169=>zS q0j q4v 2
 | 62=>zS q0k q4v 2
 | 193=>zS q0j .bool
 | 194=>zS q0k .bool
 | 67=>zS o1h .bool
 | 390=>zS (.pair p6b .str) p6b
 | 295=>zS .str p6b
 | 170=>zS .str q4v 2
 | 57=>zS o1h q4v 2
 | 171=>zS .str q4v 2
 | 391=>zS p3v o4k 3
 | 296=>zS p3v (.pair .str o1j) 3
 | 172=>zS s0p (.pair .str s0p) 1 [true]
 | 173=>zS s0p (.pair .bool s0p) 1 [true]
 | 297=>zS s0p (.pair u1g s0p) 1 [true]
 | 299=>zS (.pair o1p s8u) (.pair o1p s8u) 0 [true,true]
 | 10015=>zS (.pair s0p o48) (.pair s0p (.clo 299 (.pair .skip s8u))) 0 [true,true]
 | 302=>zS (.pair q92 o1p) (.pair q92 o1p) 0 [true,true]
 | 10017=>zS (.pair s0p o49) (.pair s0p (.clo 302 (.pair q92 .skip))) 0 [true,true]
 | 303=>zS (.pair o1p q92) (.pair o1p q92) 0 [true,true]
 | 10018=>zS (.pair s0p o5a) (.pair s0p (.clo 303 (.pair .skip q92))) 0 [true,true]
 | 175=>zS s0p (.pair (.agg o1g) s0p) 1 [true]
 | 300=>zS o4l o4l 0 [true,true]
 | 10016=>zS (.pair s0p (.clo 300 o2a)) (.pair s0p (.clo 300 (.pair s8u .skip))) 0 [true,true]
 | 301=>zS o4l o4l 0 [true,true]
 | 10019=>zS (.pair s0p (.clo 301 o2a)) (.pair s0p (.clo 301 (.pair s8u .skip))) 0 [true,true]
 | 174=>zS s0p (.pair p2i s0p) 1 [true]
 | 58=>zS .str o6l 2
 | 149=>zS (.pair q0j (.rbox .str)) .bool
 | 10012=>zS (.pair s8t (.clo 149 (.rbox .str))) u1g
 | 42=>zS o4m u1g
 | 147=>zS q0j (.agg o1g)
 | 271=>zS s8t r7x
 | 200=>zS q0k p2i
 | 235=>zS o4n u1g
 | 363=>zS o4o u1g
 | 364=>zS (.pair .str (.rbox s5f)) u1g
 | 238=>zS o1m q1k
 | 237=>zS (.pair q0j (.rbox u1g)) .bool
 | 10002=>zS (.pair s8t o4g) u1g
 | 10001=>zS (.pair r7x o4g) r7x
 | 100=>zS o4n p2i
 | 258=>zS (.pair p4w .str) .bool
 | 252=>zS (.pair q4x q7w) .bool
 | 442=>zS o1n .bool
 | 384=>zS o1n .bool
 | 273=>zS o1n .bool
 | 386=>zS (.pair q0j p71) .bool
 | 10009=>zS o5b u1g
 | 10008=>zS o5b .bool
 | 10007=>zS o5b .bool
 | 278=>zS (.pair q0j s8t) .bool
 | 146=>zS (.pair q0k (.pair q0j .str)) p2i
 | 257=>zS (.pair q1k (.pair u1g q1k)) q1k
 | 255=>zS (.pair o0g (.rbox o3a)) .bool
 | 10006=>zS (.pair s5f (.clo 255 (.rbox o3a))) u1g
 | 120=>zS (.pair s5f o1o) q1k
 | 279=>zS (.pair q0j p71) .bool
 | 10011=>zS (.pair s8t (.clo 279 p71)) u1g
 | 10010=>zS (.pair r7x (.clo 279 p71)) r7x
 | 150=>zS (.pair q0k q0j) p2i
 | 280=>zS (.pair q0j (.rbox .str)) .bool
 | 10014=>zS (.pair s8t o4h) u1g
 | 10013=>zS (.pair r7x o4h) r7x
 | 152=>zS o4m p2i
 | 72=>zS (.pair q0k o1h) o4i 2
 | 98=>zS .unit p2i
 | 426=>zS p9t q4v 2
 | 358=>zS (.pair p2h t8f) q4v 2
 | 360=>zS u1g .bool
 | 359=>zS u1g u1g
 | 362=>zS p9t u1g
 | 361=>zS p9t u1g
 | 232=>zS p9t o4p 3
 | 234=>zS p2h u1g
 | 99=>zS p2h q4w
 | 18=>zS p2h o4i 2
 | 121=>zS (.pair q4x q4x) .bool
 | 325=>zS q4w q4w 0 [true]
 | 326=>zS q4w q4w
 | 259=>zS s5f q4w
 | 260=>zS o4o q4v 2
 | 123=>zS (.pair s5f (.pair p4w u1g)) p78
 | 126=>zS .unit p4w
 | 239=>zS (.pair u1g (.pair (.rbox s5f) (.rbox s5f))) .bool
 | 365=>zS (.pair .nil u1g) q1k
 | 240=>zS o3f q1k
 | 103=>zS (.pair s5f o1m) .bool
 | 102=>zS o1n .bool
 | 10000=>zS (.pair s8t (.pair s8t (.clo 102 .unit))) .bool
 | 20=>zS (.pair q0k q0k) .bool
 | 55=>zS o2e .bool
 | 233=>zS p2h .bool
 | 96=>zS p2h .bool
 | 19=>zS o1l .bool
 | 436=>zS (.pair p4w u1g) u1g
 | 376=>zS (.pair q4x u1g) u1g
 | 437=>zS (.pair o1k u1g) u1g
 | 377=>zS o1o u1g
 | 262=>zS (.pair q0j u1g) u1g
 | 129=>zS o4j u1g
 | 458=>zS (.pair o0g u1g) u1g
 | 400=>zS o1m u1g
 | 327=>zS (.pair q0k u1g) u1g
 | 210=>zS (.pair o2e u1g) u1g
 | 131=>zS (.pair p6a u1g) u1g
 | 401=>zS (.pair o3c u1g) u1g
 | 328=>zS (.pair p72 u1g) u1g
 | 211=>zS p9t u1g
 | 80=>zS (.pair o1l u1g) u1g
 | 106=>zS q0j (.agg o1g)
 | 241=>zS s8t r7x
 | 104=>zS q0k p2i
 | 105=>zS o4n u1g
 | 113=>zS o4o u1g
 | 107=>zS o1m q1k
 | 21=>zS o4n p2i
 | 188=>zS o18 .bool
 | 191=>zS .str .bool
 | 110=>zS o1k .bool
 | 243=>zS q7w .bool
 | 316=>zS p4w .bool
 | 189=>zS q0j .bool
 | 197=>zS s5f .bool
 | 69=>zS q0k .bool
 | 313=>zS u1g .str
 | 315=>zS p3v o4k 3
 | 310=>zS p3v (.pair .str o1j) 3
 | 180=>zS s0p (.pair .str s0p) 1 [true]
 | 181=>zS s0p (.pair .bool s0p) 1 [true]
 | 186=>zS s0p (.pair u1g s0p) 1 [true]
 | 182=>zS p3v (.pair (.agg o1g) o1j) 3
 | 187=>zS (.pair s0p u1g) (.pair r7x s0p) 1 [true,false]
 | 65=>zS p3v (.pair p2i o1j) 3
 | 190=>zS q0j .bool
 | 192=>zS q0k .bool
 | 66=>zS o1h .bool
 | 307=>zS p6b .str
 | 392=>zS (.pair p6b .str) p6b
 | 308=>zS .str p6b
 | 178=>zS .str q4v 2
 | 304=>zS .str .str
 | 305=>zS .bool .str
 | 306=>zS q0j q4v 2
 | 314=>zS s8t .str
 | 185=>zS q0k q4v 2
 | 176=>zS o1h q4v 2
 | 177=>zS .str q4v 2
 | 60=>zS .str o6l 2
 | 287=>zS o1n .bool
 | 281=>zS (.pair p4w .str) .bool
 | 288=>zS (.pair q4x q7w) .bool
 | 162=>zS o1n .bool
 | 161=>zS (.pair q0j s8t) .bool
 | 379=>zS (.pair s5f o1o) q1k
 | 318=>zS (.pair q0k q0j) p2i
 | 319=>zS o4m u1g
 | 320=>zS (.pair q0k (.pair q0j .str)) p2i
 | 321=>zS o4m p2i
 | 201=>zS (.pair q0k o1h) (.pair q0k .bool) 2
 | 73=>zS (.pair q0k o1h) o4i 2
 | 417=>zS p9t q4v 2
 | 344=>zS (.pair p2h t8f) q4v 2
 | 345=>zS u1g u1g
 | 347=>zS p9t u1g
 | 346=>zS p9t u1g
 | 227=>zS p9t o4p 3
 | 228=>zS p2h u1g
 | 91=>zS p2h q4w
 | 223=>zS .unit p2i
 | 88=>zS p2h o4i 2
 | 109=>zS o2e .bool
 | 329=>zS p2h .bool
 | 330=>zS .unit u1g
 | 212=>zS p2h .bool
 | 331=>zS (.pair s8t s8t) .bool
 | 27=>zS o4o q4v 2
 | 153=>zS (.pair s5f p4w) q4w
 | 46=>zS (.pair s5f (.pair p4w u1g)) p78
 | 265=>zS (.pair q4x q4x) .bool
 | 338=>zS .unit p4w
 | 332=>zS (.pair s5f o1m) .bool
 | 213=>zS (.pair q0k q0k) .bool
 | 81=>zS o1l .bool
 | 438=>zS p4w p4w
 | 380=>zS q4x p78
 | 439=>zS o1k o1k
 | 381=>zS q7w (.own true u2v)
 | 268=>zS q0j (.agg o1g)
 | 133=>zS s8t r7x
 | 459=>zS o0g o0g
 | 402=>zS s5f q1k
 | 333=>zS q0k p2i
 | 214=>zS o2e (.agg (.pair o29 r7x))
 | 135=>zS p6a q4w
 | 403=>zS o3c o3c
 | 334=>zS p72 o3g
 | 215=>zS p2h (.agg (.pair q4w o3g))
 | 82=>zS o1l (.agg (.pair (.pair o29 r7x) (.pair q4w o3g)))
 | 440=>zS (.pair p4w p4w) .bool
 | 382=>zS (.pair q4x q4x) .bool
 | 441=>zS (.pair o1k o1k) .bool
 | 383=>zS (.pair q7w q7w) .bool
 | 269=>zS o1n .bool
 | 136=>zS (.pair s8t s8t) .bool
 | 460=>zS (.pair o0g o0g) .bool
 | 404=>zS (.pair s5f s5f) .bool
 | 335=>zS (.pair q0k q0k) .bool
 | 216=>zS (.pair o2e o2e) .bool
 | 138=>zS (.pair p6a p6a) .bool
 | 405=>zS (.pair o3c o3c) .bool
 | 336=>zS (.pair p72 p72) .bool
 | 217=>zS (.pair p2h p2h) .bool
 | 83=>zS (.pair o1l o1l) .bool
 | 11=>zS o1l .bool
 | _=>zS .unit .unit 0
def o2p:Nat→Nat→Option Join
 | 205,3=>some ⟨[6],.bool,[]⟩
 | 142,9=>some ⟨[19],.bool,[]⟩
 | 208,3=>some ⟨[2],.bool,[]⟩
 | 157,3=>some ⟨[2],.bool,[]⟩
 | 291,9=>some ⟨[29],.bool,[]⟩
 | 165,15=>some ⟨[52],.bool,[]⟩
 | 165,19=>some ⟨[74],.bool,[]⟩
 | 165,23=>some ⟨[2],.bool,[]⟩
 | 204,9=>some ⟨[50],.bool,[]⟩
 | 76,3=>some ⟨[36],.bool,[]⟩
 | 76,25=>some ⟨[88],.bool,[]⟩
 | 76,37=>some ⟨[128],.bool,[]⟩
 | 193,3=>some ⟨[2],.bool,[]⟩
 | 194,3=>some ⟨[2],.bool,[]⟩
 | 67,11=>some ⟨[3],.bool,[]⟩
 | 67,15=>some ⟨[3],.bool,[]⟩
 | 67,25=>some ⟨[2],.bool,[]⟩
 | 171,11=>some ⟨[26],.bool,[]⟩
 | 391,11=>some ⟨[26],.bool,[]⟩
 | 391,23=>some ⟨[57],.bool,[]⟩
 | 296,5=>some ⟨[30],.bool,[]⟩
 | 172,5=>some ⟨[26],.bool,[]⟩
 | 173,3=>some ⟨[32],.bool,[]⟩
 | 297,5=>some ⟨[26],.bool,[]⟩
 | 10015,5=>some ⟨[17],.bool,[]⟩
 | 10017,5=>some ⟨[17],.bool,[]⟩
 | 10018,5=>some ⟨[17],.bool,[]⟩
 | 10016,5=>some ⟨[17],.bool,[]⟩
 | 10019,5=>some ⟨[17],.bool,[]⟩
 | 58,5=>some ⟨[20],.bool,[]⟩
 | 58,29=>some ⟨[64],.bool,[]⟩
 | 363,11=>some ⟨[40],.bool,[]⟩
 | 238,11=>some ⟨[31],.bool,[]⟩
 | 258,3=>some ⟨[4],.bool,[]⟩
 | 442,3=>some ⟨[4],.bool,[]⟩
 | 273,3=>some ⟨[4],.bool,[]⟩
 | 386,3=>some ⟨[3],.bool,[]⟩
 | 72,3=>some ⟨[16],.bool,[]⟩
 | 72,23=>some ⟨[6],.bool,[]⟩
 | 72,33=>some ⟨[72],.bool,[]⟩
 | 72,41=>some ⟨[92],.bool,[]⟩
 | 360,3=>some ⟨[2],.bool,[]⟩
 | 362,5=>some ⟨[18],.bool,[]⟩
 | 232,5=>some ⟨[29],.bool,[]⟩
 | 232,21=>some ⟨[49],.bool,[]⟩
 | 18,15=>some ⟨[35],.bool,[]⟩
 | 260,5=>some ⟨[21],.bool,[]⟩
 | 123,13=>some ⟨[31],.bool,[]⟩
 | 102,7=>some ⟨[4],.bool,[]⟩
 | 55,13=>some ⟨[71],.bool,[]⟩
 | 233,21=>some ⟨[38],.bool,[]⟩
 | 233,27=>some ⟨[2],.bool,[]⟩
 | 96,7=>some ⟨[2],.bool,[]⟩
 | 19,5=>some ⟨[2],.bool,[]⟩
 | 113,11=>some ⟨[47],.bool,[]⟩
 | 107,13=>some ⟨[38],.bool,[]⟩
 | 107,37=>some ⟨[90],.bool,[]⟩
 | 188,3=>some ⟨[6],.bool,[]⟩
 | 191,9=>some ⟨[19],.bool,[]⟩
 | 110,3=>some ⟨[2],.bool,[]⟩
 | 243,9=>some ⟨[33],.bool,[]⟩
 | 316,3=>some ⟨[2],.bool,[]⟩
 | 189,3=>some ⟨[31],.bool,[]⟩
 | 189,17=>some ⟨[67],.bool,[]⟩
 | 189,21=>some ⟨[86],.bool,[]⟩
 | 189,25=>some ⟨[2],.bool,[]⟩
 | 197,11=>some ⟨[39],.bool,[]⟩
 | 197,15=>some ⟨[74],.bool,[]⟩
 | 69,3=>some ⟨[38],.bool,[]⟩
 | 69,27=>some ⟨[98],.bool,[]⟩
 | 69,41=>some ⟨[146],.bool,[]⟩
 | 315,13=>some ⟨[25],.bool,[]⟩
 | 315,23=>some ⟨[54],.bool,[]⟩
 | 310,5=>some ⟨[30],.bool,[]⟩
 | 180,5=>some ⟨[26],.bool,[]⟩
 | 181,3=>some ⟨[30],.bool,[]⟩
 | 186,5=>some ⟨[26],.bool,[]⟩
 | 182,17=>some ⟨[46],.bool,[]⟩
 | 182,31=>some ⟨[76],.bool,[]⟩
 | 182,47=>some ⟨[108],.bool,[]⟩
 | 187,9=>some ⟨[28],.bool,[]⟩
 | 65,13=>some ⟨[37],.bool,[]⟩
 | 65,31=>some ⟨[72],.bool,[]⟩
 | 190,3=>some ⟨[2],.bool,[]⟩
 | 192,3=>some ⟨[2],.bool,[]⟩
 | 66,7=>some ⟨[3],.bool,[]⟩
 | 66,9=>some ⟨[54],.bool,[]⟩
 | 66,13=>some ⟨[77],.bool,[]⟩
 | 177,5=>some ⟨[24],.bool,[]⟩
 | 60,5=>some ⟨[20],.bool,[]⟩
 | 60,29=>some ⟨[66],.bool,[]⟩
 | 287,7=>some ⟨[31],.bool,[]⟩
 | 281,3=>some ⟨[4],.bool,[]⟩
 | 162,3=>some ⟨[4],.bool,[]⟩
 | 161,9=>some ⟨[25],.bool,[]⟩
 | 379,17=>some ⟨[72],.bool,[]⟩
 | 201,15=>some ⟨[36],.bool,[]⟩
 | 73,3=>some ⟨[16],.bool,[]⟩
 | 344,15=>some ⟨[28],.bool,[]⟩
 | 347,5=>some ⟨[18],.bool,[]⟩
 | 227,27=>some ⟨[52],.bool,[]⟩
 | 88,17=>some ⟨[39],.bool,[]⟩
 | 109,3=>some ⟨[16],.bool,[]⟩
 | 109,15=>some ⟨[68],.bool,[]⟩
 | 329,3=>some ⟨[15],.bool,[]⟩
 | 329,23=>some ⟨[58],.bool,[]⟩
 | 212,3=>some ⟨[24],.bool,[]⟩
 | 212,11=>some ⟨[2],.bool,[]⟩
 | 331,17=>some ⟨[44],.bool,[]⟩
 | 27,5=>some ⟨[21],.bool,[]⟩
 | 332,23=>some ⟨[61],.bool,[]⟩
 | 213,3=>some ⟨[4],.bool,[]⟩
 | 81,3=>some ⟨[14],.bool,[]⟩
 | _,_=>none
abbrev u2w:=zL [0,1,7,8] (.pair s8t (.pair (.clo 289 p71) t8f)) 0 [] .unit [4] u1g
abbrev s08:=zL [0,1,7,8,9] (.pair s8t (.pair u1g p70)) 0 [] .unit [4] .bool
abbrev t1u:=zL [0,3,9,10,11] (.pair o3b (.pair u1g o4q)) 0 [0,3] (.pair o3b u1g) [] .unit
abbrev u97:=zL [6,25,26,27] (.pair o45 o4q) 2 [6] o45 [] .unit
abbrev r4f:=zL [0,3] p3v 0 [0] .str [2] .bool
abbrev s3x:=zL [0,5,6,7] (.pair q7w o2b) 0 [0] q7w [2] .bool
abbrev r4g:=zL [1,6,7,8] (.pair q1u o2c) 0 [1] q1u [2] .bool
abbrev t89:=zL [0,5,6,7] (.pair s5f o0f) 0 [0] s5f [2] .bool
abbrev r0n:=zL [1,38,39,40] (.pair q1l o0f) 0 [1] q1l [2] .bool
abbrev s60:=zL [1,51,52,53] (.pair q1l p70) 2 [1] q1l [2] .bool
abbrev s61:=zL [1,91,92,93] (.pair q1l p70) 4 [1] q1l [2] .bool
abbrev s7b:=zL [0,4] o4f 0 [0,4] o4f [] .unit
abbrev s09:=zL [0,8,9,10] (.pair q7x (.pair p6a t8f)) 0 [0] q7x [] .unit
abbrev s3z:=zL [0,8,9,10] (.pair q7x (.pair (.tr false o1e) t8f)) 0 [0] q7x [] .unit
abbrev s7a:=zL [1,4,29,30,31] (.pair q1u (.pair q7x o2c)) 0 [1,4] (.pair q1u q7x) [] .unit
abbrev s3w:=zL [1,4,50,51,52] (.pair q1u (.pair q7x o2b)) 2 [1,4] (.pair q1u q7x) [] .unit
abbrev s3q:=zL [1,4,29,30,31] (.pair q1l (.pair q7x o0f)) 0 [1,4] (.pair q1l q7x) [] .unit
abbrev s04:=zL [4,56,57,58] (.pair q7x o4q) 2 [4] q7x [] .unit
abbrev s05:=zL [4,56,57,58,67,68,69] (.pair q7x (.pair o3b (.pair u1g (.pair u1g p70)))) 4 [4,56,57,58] (.pair q7x o4q) [] .unit
abbrev s64:=zL [0,1,5] o4r 0 [0] p6b [] .unit
abbrev s65:=zL [0,1,5,6] (.pair p6b (.pair .str t8f)) 2 [0,1,5] o4r [] .unit
abbrev s63:=zL [0,1,7,8] (.pair .str o18) 0 [] .unit [4,5,6] o4k
abbrev u4e:=zL [0,1,4,5] (.pair s0p (.pair o48 t8f)) 0 [0,1] (.pair s0p o48) [] .unit
abbrev u4q:=zL [0,1,4,5] (.pair s0p (.pair o49 t8f)) 0 [0,1] (.pair s0p o49) [] .unit
abbrev u4r:=zL [0,1,4,5] (.pair s0p (.pair o5a t8f)) 0 [0,1] (.pair s0p o5a) [] .unit
abbrev u4f:=zL [0,1,4,5] (.pair s0p (.pair (.clo 300 o2a) t8f)) 0 [0,1] (.pair s0p (.clo 300 o2a)) [] .unit
abbrev u4g:=zL [0,1,4,5] (.pair s0p (.pair (.clo 301 o2a) t8f)) 0 [0,1] (.pair s0p (.clo 301 o2a)) [] .unit
abbrev u3b:=zL [0,1,7,8] (.pair s8t (.pair (.clo 149 (.rbox .str)) t8f)) 0 [] .unit [4] u1g
abbrev s3y:=zL [3,6,7,8] (.pair r7x p70) 0 [3] r7x [] .unit
abbrev s3s:=zL [5,10,11,12] (.pair u1g p70) 0 [5] u1g [] .unit
abbrev r0s:=zL [0,1,2,7,10,11,12] (.pair s5f (.pair .str (.pair u1g (.pair u1g o0f)))) 0 [7] u1g [] .unit
abbrev s07:=zL [0,4,7,8,9] (.pair .str (.pair u1g o0f)) 0 [4] u1g [] .unit
abbrev s69:=zL [0,1,5,12,13,14] (.pair s5f (.pair u1g (.pair (.box q1k) o0f))) 0 [1,5] (.pair u1g (.box q1k)) [] .unit
abbrev s3v:=zL [1,8,9,38,39,40] (.pair u1g (.pair (.clo 364 (.rbox o0e)) (.pair q1k (.pair o0e t8f)))) 2 [9] q1k [] .unit
abbrev u3m:=zL [0,1,7,8] (.pair s8t (.pair o4g t8f)) 0 [] .unit [4] u1g
abbrev u29:=zL [0,1,5,6] (.pair r7x (.pair o4g t8f)) 0 [0,5] o3d [] .unit
abbrev s67:=zL [1,9,10,11] (.pair q7w o2c) 0 [] .unit [4] .bool
abbrev s68:=zL [1,6,9,10,11,15,16,17] (.pair q7w (.pair o1q (.pair q4x (.pair u1g (.pair u1g o2b))))) 2 [1,9,10,11] (.pair q7w o2c) [4] .bool
abbrev u3x:=zL [0,1,7,8] (.pair s8t (.pair (.clo 386 p71) t8f)) 0 [] .unit [4] u1g
abbrev s06:LoopA:=⟨⟨[2,4,6,7,8,9,10,30,31,32],(.pair .str (.pair q1u (.pair s8u (.pair s8u (.pair q92 (.pair r7x (.pair r7x (.pair .skip t8f)))))))),[(30,7,2,u0a)]⟩,0,⟨[4,6,7,8,9,10],(.pair q1u (.pair s8u (.pair s8u (.pair q92 (.pair r7x (.tr true u0a)))))),[]⟩,⟨[],.unit,[]⟩⟩
abbrev u15:=zL [0,1,7,8] (.pair s5f (.pair (.clo 255 (.rbox o3a)) t8f)) 0 [] .unit [4] u1g
abbrev t74:=zL [2,7,14,15,16] (.pair u1g (.pair q1k o2b)) 0 [7] q1k [] .unit
abbrev u3c:=zL [0,1,7,8] (.pair s8t (.pair (.clo 279 p71) t8f)) 0 [] .unit [4] u1g
abbrev u21:=zL [0,1,5,6] (.pair r7x (.pair (.clo 279 p71) t8f)) 0 [0,5] o3d [] .unit
abbrev s66:LoopA:=⟨⟨[3,4,5,6,46,47,48],(.pair q1u (.pair s8u (.pair s8u (.pair q92 (.pair .skip t8f))))),[(46,5,2,u0a)]⟩,0,⟨[3,4,5,6],o6n,[]⟩,⟨[],.unit,[]⟩⟩
abbrev u3a:=zL [0,1,7,8] (.pair s8t (.pair o4h t8f)) 0 [] .unit [4] u1g
abbrev u20:=zL [0,1,5,6] (.pair r7x (.pair o4h t8f)) 0 [0,5] o3d [] .unit
abbrev t87:=zL [1,6,22,23,24] (.pair u1g (.pair .str (.pair p72 t8f))) 0 [6] .str [] .unit
abbrev t88:=zL [1,2,3,8,9] (.pair u1g (.pair u1g (.pair p55 (.pair (.own true o36) u1g)))) 0 [8] (.tr true o36) [6,7] q4v
abbrev s3t:=zL [1,2,7,9,10,11] (.pair u1g (.pair p55 (.pair .str (.pair q4w t8f)))) 0 [9,10] o3h [4,5,6] o4p
abbrev s62:=zL [2,4,13,14,15] (.pair s8u (.pair s8u (.pair o2d t8f))) 0 [2,4] o3e [2,3] (.pair s8u .bool)
abbrev t1v:=zL [0,1,12,13] (.pair q4x o2c) 0 [] .unit [4] .bool
abbrev r0r:=zL [3,6,7,8] (.pair q4w o0f) 0 [3] q4w [] .unit
abbrev r0q:=zL [0,2,4,7,13,14,15] (.pair s5f (.pair u1g (.pair o1q (.pair p78 (.pair o2d t8f))))) 0 [7] p78 [] .unit
abbrev u7f:=zL [0,3,9,10,11] (.pair o3f (.pair u1g (.pair o3f t8f))) 0 [0,3] (.pair o3f u1g) [] .unit
abbrev u6z:=zL [6,25,26,27] (.pair q1k (.pair o3f t8f)) 2 [6] q1k [] .unit
abbrev s3u:=zL [2,7,14,15,16] (.pair u1g (.pair o6p (.pair o0e t8f))) 0 [2,7] (.pair u1g o6p) [6] .bool
abbrev u3l:=zL [1,2,15,16,17] (.pair s8t (.pair (.clo 102 .unit) p70)) 0 [] .unit [6] .bool
abbrev s3r:=zL [1,33,34,35] (.pair (.box o1i) p70) 0 [] .unit [2] .bool
abbrev r0o:=zL [1,8,9,10] (.pair p55 (.pair p6a t8f)) 0 [1] p55 [2] .bool
abbrev r0p:=zL [1,19,20,21] (.pair p55 (.pair p72 t8f)) 2 [1] p55 [2] .bool
abbrev s32:=zL [0,1,5] o2c 0 [1] u1g [4] u1g
abbrev s33:=zL [0,1,5] o2b 0 [1] u1g [4] u1g
abbrev r0w:=zL [0,1,5] p70 0 [1] u1g [4] u1g
abbrev t9b:=zL [0,1,5] o0f 0 [1] u1g [4] u1g
abbrev s1b:=zL [0,1,5] (.pair p6a t8f) 0 [1] u1g [4] u1g
abbrev r0v:=zL [0,1,5] (.pair p72 t8f) 0 [1] u1g [4] u1g
abbrev s7t:=zL [0,3,4] (.pair s8t o3d) 0 [3] r7x [] .unit
abbrev s38:=zL [1,5,6] p70 0 [5] u1g [] .unit
abbrev r4k:=zL [0,1,2,7,8] (.pair s5f (.pair .str o18)) 0 [7] u1g [] .unit
abbrev s7p:=zL [0,1,5,6] (.pair s5f (.pair u1g o3i)) 0 [1,5] (.pair u1g o0e) [] .unit
abbrev s4d:=zL [1,5,8,9] (.pair u1g (.pair o0e o3i)) 2 [8] q1k [] .unit
abbrev s4e:=zL [1,5,8,9,10,11] (.pair u1g (.pair o0e (.pair q1k o18))) 4 [1,5,8,9,10] (.pair u1g (.pair o0e (.pair q1k t8f))) [] .unit
abbrev r03:=zL [2,4,5,6,7] (.pair q1l (.pair s8u (.pair s8u t8f))) 0 [2,4,5,6] (.pair q1l o46) [] .unit
abbrev r4h:=zL [0,3] p3v 0 [0] .str [2] .bool
abbrev s4g:=zL [0,3] o1o 0 [0] q7w [2] .bool
abbrev r4j:=zL [1,3] (.pair q1u u1g) 0 [1] q1u [2] .bool
abbrev t9g:=zL [0,3] o1m 0 [0] s5f [2] .bool
abbrev r0z:=zL [1,3] (.pair q1l u1g) 0 [1] q1l [2] .bool
abbrev s7c:=zL [1,4,5] o6q 2 [1,4] (.pair q1l (.own true o1e)) [2] .bool
abbrev s7d:=zL [1,4,7] o6q 4 [1,4] (.pair q1l (.tr true o1e)) [2] .bool
abbrev s7e:=zL [1,4,9] o6r 6 [] .unit [2] .bool
abbrev s7f:=zL [1,4,9,10] (.pair q1l (.pair (.tr true o1e) t8f)) 8 [1,4,9] o6r [2] .bool
abbrev r04:=zL [0,3] o4f 0 [0,3] o4f [] .unit
abbrev s7j:=zL [0,1,7,8,9] (.pair .str (.pair u1g o18)) 0 [] .unit [4,5,6] o4k
abbrev s7i:=zL [4,7,8,9,10] o6o 0 [4,7,8] (.pair q92 (.pair s0p q92)) [] .unit
abbrev s4a:=zL [4,7,8,12,13] o6o 2 [4,7,8] (.pair q92 (.pair s0p q92)) [] .unit
abbrev t77:=zL [0,1,5,6,7] (.pair s0p (.pair u1g (.pair r7x t8f))) 0 [0,5] (.pair s0p r7x) [0,4] (.pair s0p r7x)
abbrev s39:=zL [4,7,8,9,10] (.pair s8u (.pair s0p (.pair s8u t8f))) 0 [4,7,8] (.pair s8u (.pair s0p s8u)) [] .unit
abbrev s7l:=zL [0,1,5] o4r 0 [0] p6b [] .unit
abbrev s7m:=zL [0,1,5,6] (.pair p6b (.pair .str t8f)) 2 [0,1,5] o4r [] .unit
abbrev s7q:=zL [1,4,5] (.pair q1u p3v) 0 [1,4] (.pair q1u .str) [] .unit
abbrev s4f:=zL [1,4,6] (.pair q1u p3v) 2 [1,4] (.pair q1u .str) [] .unit
abbrev s7u:=zL [0,3,4] (.pair s8t p3v) 0 [3] .str [] .unit
abbrev s36:=zL [1,4,5] (.pair q1l p3v) 0 [1,4] (.pair q1l .str) [] .unit
abbrev s7n:=zL [0,1,5] (.pair q4x o1o) 0 [] .unit [4] .bool
abbrev s7o:=zL [0,1,5,6] (.pair q4x o2b) 2 [0,1,5] (.pair q4x o1o) [4] .bool
abbrev r4i:=zL [1,2,5] (.pair s8t (.pair q1u u1g)) 0 [] .unit [4] .bool
abbrev t75:=zL [1,2,7,8] (.pair q7w (.pair u1g o3i)) 0 [7] q1k [] .unit
abbrev t76:=zL [1,2,7,8,9,10,11] o6k 2 [1,2,7,8,9,10,11] o6k [] .unit
abbrev s4c:=zL [2,3,4,5,6,7] (.pair q1l (.pair q1u (.pair s8u (.pair s8u (.pair (.box (.pair u1g (.pair u1g (.pair u1g (.pair u1g (.pair (.tr true r4y) (.pair (.tr true u2v) (.pair .bool .str)))))))) u1g))))) 0 [3,4,5] (.pair q1u o3e) [] .unit
abbrev s7k:=zL [1,2,5] (.pair .str (.pair q1l u1g)) 0 [] .unit [4] u1g
abbrev s1f:=zL [2,3,4,6,7,8,9] (.pair .str (.pair q1l (.pair q1u (.pair s8u (.pair s8u (.pair q92 u1g)))))) 0 [2,3,4,6,7,8] (.pair .str (.pair q1l o6n)) [] .unit
abbrev t9d:=zL [2,3,4,6,7,10] (.pair .str (.pair q1l (.pair q1u o46))) 2 [4,6,7] (.pair q1u o3e) [] .unit
abbrev s7g:=zL [1,2,4,5,6] (.pair .str (.pair q1l o46)) 0 [4,5] o3e [] .unit
abbrev t9e:=zL [1,2,6] (.pair u1g (.pair p55 u1g)) 0 [1,2] (.pair u1g p55) [4,5] q4v
abbrev t9f:=zL [1,2,3,8,9] (.pair u1g (.pair u1g (.pair p55 p3v))) 0 [8] .str [6,7] q4v
abbrev s1g:=zL [1,2,7,8,10,11,12] (.pair u1g (.pair p55 (.pair q4w (.pair .str (.pair q4w t8f))))) 0 [10,11] o3h [4,5,6] o4p
abbrev s7h:=zL [2,4,5,6] (.pair s8u (.pair s8u (.pair o2d u1g))) 0 [2,4] o3e [2,3] (.pair s8u .bool)
abbrev s37:=zL [1,3] (.pair (.box o1i) u1g) 0 [] .unit [2] .bool
abbrev s1d:=zL [1,3,4,5] o6m 2 [1,3,4] (.pair (.box o1i) (.pair u1g q1u)) [2] .bool
abbrev s1e:=zL [1,3,4,6] o6m 4 [1,3] (.pair (.box o1i) u1g) [2] .bool
abbrev r00:=zL [1,3] (.pair p55 u1g) 0 [1] p55 [2] .bool
abbrev r01:=zL [1,4] (.pair p55 u1g) 2 [] .unit [2] .bool
abbrev s4j:=zL [0,1,5] (.pair s8t o4j) 0 [] .unit [4] .bool
abbrev s7r:=zL [0,3,5,6] (.pair s5f (.pair o1q o3h)) 0 [5] q4w [] .unit
abbrev s7s:=zL [0,3,5,6,7,8,9] o6j 2 [0,3,5,6,7,8] (.pair s5f (.pair o1q (.pair o2d (.pair u1g (.pair .str q4w))))) [] .unit
abbrev s4h:=zL [0,3,5,6,7,8,10] o6j 4 [0,3,6,8] (.pair s5f (.pair o1q (.pair u1g q4w))) [] .unit
abbrev r02:=zL [0,2,7,8,9] (.pair s5f (.pair u1g (.pair p78 (.pair o2d u1g)))) 0 [7] p78 [] .unit
abbrev s4i:=zL [0,1,5] (.pair q4x (.pair q4x u1g)) 0 [] .unit [4] .bool
abbrev s4b:=zL [0,1,2,7,8] (.pair s5f (.pair s5f (.pair u1g (.pair o1q u1g)))) 0 [] .unit [6] .bool
abbrev s34:=zL [0,3,4] (.pair q4x (.pair p78 u1g)) 0 [3] p78 [] .unit
abbrev s35:=zL [0,3,4] (.pair q7w (.pair (.own true u2v) u1g)) 0 [3] (.own true u2v) [] .unit
abbrev r0y:=zL [0,3,4] (.pair s8t o3d) 0 [3] r7x [] .unit
abbrev t9c:=zL [0,3,4] (.pair s5f o3i) 0 [3] q1k [] .unit
abbrev s1c:=zL [0,3,4] (.pair p6a o3h) 0 [3] q4w [] .unit
abbrev r0x:=zL [0,3,4] (.pair p72 (.pair o3g u1g)) 0 [3] o3g [] .unit
abbrev s30:=zL [0,1,5] (.pair q4x (.pair q4x u1g)) 0 [] .unit [4] .bool
abbrev s31:=zL [0,1,5] (.pair q7w o1o) 0 [] .unit [4] .bool
abbrev r0u:=zL [0,1,5] (.pair s8t o4j) 0 [] .unit [4] .bool
abbrev t9a:=zL [0,1,5] (.pair s5f o1m) 0 [] .unit [4] .bool
abbrev s1a:=zL [0,1,5] (.pair p6a (.pair p6a u1g)) 0 [] .unit [4] .bool
abbrev r0t:=zL [0,1,5] (.pair p72 (.pair p72 u1g)) 0 [] .unit [4] .bool
def o2t:Nat→Nat→Option LoopA
 | 10005,2=>some u2w
 | 163,2=>some s08
 | 164,3=>some t1u
 | 164,11=>some u97
 | 142,2=>some r4f
 | 291,2=>some s3x
 | 165,2=>some r4g
 | 204,2=>some t89
 | 76,4=>some r0n
 | 76,10=>some s60
 | 76,16=>some s61
 | 312,4=>some s7b
 | 167,1=>some s09
 | 184,1=>some s3z
 | 169,6=>some s7a
 | 169,12=>some s3w
 | 62,6=>some s3q
 | 62,13=>some s04
 | 62,17=>some s05
 | 390,2=>some s64
 | 390,6=>some s65
 | 391,5=>some s63
 | 10015,2=>some u4e
 | 10017,2=>some u4q
 | 10018,2=>some u4r
 | 10016,2=>some u4f
 | 10019,2=>some u4g
 | 10012,2=>some u3b
 | 271,3=>some s3y
 | 235,3=>some s3s
 | 363,3=>some r0s
 | 364,3=>some s07
 | 238,3=>some s69
 | 238,11=>some s3v
 | 10002,2=>some u3m
 | 10001,5=>some u29
 | 252,2=>some s67
 | 252,5=>some s68
 | 10009,2=>some u3x
 | 146,6=>some s06
 | 10006,2=>some u15
 | 120,3=>some t74
 | 10011,2=>some u3c
 | 10010,5=>some u21
 | 150,9=>some s66
 | 10014,2=>some u3a
 | 10013,5=>some u20
 | 426,5=>some t87
 | 358,5=>some t88
 | 232,7=>some s3t
 | 18,3=>some s62
 | 121,4=>some t1v
 | 259,3=>some r0r
 | 123,3=>some r0q
 | 240,3=>some u7f
 | 240,11=>some u6z
 | 103,3=>some s3u
 | 10000,4=>some u3l
 | 55,4=>some s3r
 | 233,2=>some r0o
 | 233,8=>some r0p
 | 376,5=>some s32
 | 377,5=>some s33
 | 129,5=>some r0w
 | 400,5=>some t9b
 | 131,5=>some s1b
 | 328,5=>some r0v
 | 241,3=>some s7t
 | 105,3=>some s38
 | 113,3=>some r4k
 | 107,3=>some s7p
 | 107,10=>some s4d
 | 107,14=>some s4e
 | 21,5=>some r03
 | 191,2=>some r4h
 | 243,2=>some s4g
 | 189,4=>some r4j
 | 197,2=>some t9g
 | 69,4=>some r0z
 | 69,10=>some s7c
 | 69,17=>some s7d
 | 69,24=>some s7e
 | 69,27=>some s7f
 | 313,2=>some r04
 | 315,6=>some s7j
 | 182,8=>some s7i
 | 182,15=>some s4a
 | 187,4=>some t77
 | 65,6=>some s39
 | 392,2=>some s7l
 | 392,6=>some s7m
 | 306,5=>some s7q
 | 306,10=>some s4f
 | 314,3=>some s7u
 | 185,5=>some s36
 | 288,2=>some s7n
 | 288,5=>some s7o
 | 161,2=>some r4i
 | 379,3=>some t75
 | 379,8=>some t76
 | 318,12=>some s4c
 | 319,2=>some s7k
 | 320,8=>some s1f
 | 320,14=>some t9d
 | 321,4=>some s7g
 | 417,4=>some t9e
 | 344,5=>some t9f
 | 227,10=>some s1g
 | 88,4=>some s7h
 | 109,4=>some s37
 | 109,10=>some s1d
 | 109,15=>some s1e
 | 329,4=>some r00
 | 329,9=>some r01
 | 331,4=>some s4j
 | 153,3=>some s7r
 | 153,9=>some s7s
 | 153,15=>some s4h
 | 46,4=>some r02
 | 265,4=>some s4i
 | 332,5=>some s4b
 | 380,3=>some s34
 | 381,3=>some s35
 | 133,3=>some r0y
 | 402,3=>some t9c
 | 135,3=>some s1c
 | 334,3=>some r0x
 | 382,4=>some s30
 | 383,4=>some s31
 | 136,4=>some r0u
 | 404,4=>some t9a
 | 138,4=>some s1a
 | 336,4=>some r0t
 | _,_=>none
def o60:Nat→Nat
 | 10000=>101
 | 10001=>236
 | 10002=>148
 | 10003=>127
 | 10004=>261
 | 10005=>148
 | 10006=>254
 | 10007=>127
 | 10008=>261
 | 10009=>148
 | 10010=>236
 | 10011=>148
 | 10012=>148
 | 10013=>236
 | 10014=>148
 | 10015=>298
 | 10016=>298
 | 10017=>298
 | 10018=>298
 | 10019=>298
 | f=>f
def o2z:Nat→List Nat→Nat
 | 101, [102] =>10000
 | 236, [237] =>10001
 | 148, [237] =>10002
 | 127, [289] =>10003
 | 261, [289] =>10004
 | 148, [289] =>10005
 | 254, [255] =>10006
 | 127, [386] =>10007
 | 261, [386] =>10008
 | 148, [386] =>10009
 | 236, [279] =>10010
 | 148, [279] =>10011
 | 148, [149] =>10012
 | 236, [280] =>10013
 | 148, [280] =>10014
 | 298, [299] =>10015
 | 298, [300] =>10016
 | 298, [302] =>10017
 | 298, [303] =>10018
 | 298, [301] =>10019
 | f,_=>f
def p7f:(f:Nat)→Option ((o00 f).ins.den→Option (o00 f).out.den)
 | 257=>some (y2q u0d)
 | 325=>some (y7a)
 | 326=>some (y0m)
 | _=>none
def p91:Plan:= {sig:=o00,join:=o2p,loop:=o2t,fn:=o60,pick:=o2z,prim:=p7f,gd:=y8a}
def A:Ann:=ann o6h p91
set_option maxRecDepth 100000
abbrev r7w:Type:=(List u0a.den)
abbrev s6c:Type:=(List u0d.den)
abbrev s2v:Type:=(ByteArray×Bool)
abbrev r5e:Type:=(List ByteArray)
abbrev s8n:Type:=(Unit⊕Bool)
abbrev p2d:Type:=(ByteArray×Int)
abbrev p3u:Type:=(List r4y.den)
abbrev p2f:Type:=(ByteArray×ByteArray)
abbrev q7v:Type:=(List u2v.den)
abbrev q94:Type:=(List Int)
abbrev p4t:Type:=(Int×Int)
abbrev p2g:Type:=(Unit⊕Int)
abbrev p4u:Type:=(List q6y.den)
abbrev o1f:Type:=(Int×Bool)
abbrev r5f:Type:=(ByteArray×o1f)
abbrev p4v:Type:=(Int⊕Unit)
abbrev p77:Type:=(Int×ByteArray)
abbrev p58:Type:=(s6c⊕Unit)
abbrev p97:Type:=(ByteArray×s2v)
abbrev p59:Type:=(Int⊕Int)
abbrev o37:Type:=((r5e×Int)⊕(r5e×o1f))
abbrev p98:Type:=(r7w⊕Unit)
abbrev o38:Type:=(Int×(ByteArray×p4t))
abbrev p99:Type:=(Z71⊕Bool)
abbrev o0a:Type:=(Int×q94)
abbrev o0b:Type:=(Int×p2d)
abbrev o0c:Type:=(Int×o1f)
abbrev o0d:Type:=(s6c×Int)
abbrev o39:Type:=((Int×s6c)⊕Unit)
abbrev o1v:Type:=(q94⊕Unit)
abbrev o1w:Type:=(p73⊕Unit)
abbrev o1x:Type:=(r5e⊕Unit)
abbrev o1y:Type:=(p3u⊕Unit)
abbrev o1z:Type:=(s8p⊕Bool)
abbrev o13:Type:=(p3u×p3u)
abbrev o4a:Type:=(ByteArray⊕Bool)
abbrev o4b:Type:=(ByteArray⊕Unit)
abbrev o15:Type:=(Int×p4t)
abbrev zLv:=y5x Tryz.prog A
abbrev zK (f:Nat) (x:(A.sig f).ins.den):=zLv.call f x
theorem zC (f:Nat) {fn:Func} {X:(A.sig f).ins.den→Option (A.sig f).out.den} (hp:A.prim f=none) (hf:Tryz.prog.funcs[A.fn f]? =some fn) (hb:z7s A zLv lpW f fn=X):zK f=X:=funext (y7p hp hf (congrFun hb))
theorem zW (l:LoopA) (f:Nat) (fn:Func) (r n:Nat) {S:(l.head.sh.den→Option (l.out.sh.den⊕l.ret.sh.den))→l.head.sh.den→Option (l.out.sh.den⊕l.ret.sh.den)} (x:l.head.sh.den) (h:S=z7n A zLv lpW f (y7w fn r) l n):lpW _ _ S x=S (lpW _ _ S) x:=y7x h x
def t5c(x:Z84):Option Bool:=zK 125 x
def r5v (x:Z84):Option Bool:=(some (decide (x.2.1=3)))
theorem r60:t5c=r5v:=zC 125 rfl Tryz.func125 (by kernel_rfl)
def t5a(x:Z32):Option Bool:=zK 289 x
def r5t (x:Z32):Option Bool:=(some (decide (x.1.1=x.2.1)))
theorem r6z:t5a=r5t:=zC 289 rfl Tryz.func289 (by kernel_rfl)
def u3d(x:Z58):Option Int:=zK 10005 x
def u2u(g:Z44→Option p2g)(x:Z44):Option p2g:=(bif (decide (x.2.2.2<x.2.2.1)) then(bif (y4q x.2.2.2 x.1.length) then((t5a ((rdL u0a x.1 (x.2.2.2).toNat),x.2.1)).bind fun y1=>(bif y1 then(some (.inr x.2.2.2)) else(g (x.1,(x.2.1,(x.2.2.1,(IntKind.i64.wrap (x.2.2.2+1)))))))) else none) else(some (.inl ())))
def u0w:=lpW _ _ u2u
theorem u6e x:u0w x=u2u u0w x:=zW u2w 10005 Tryz.f148 2 19 x (by kernel_rfl)
def u28 (x:Z58):Option Int:=((u0w (x.1,(x.2,((x.1.length:Int),0)))).bind fun r2=>match r2 with | .inl o3=>(some (-1:Int)) | .inr z4=>(some z4))
theorem u69:u3d=u28:=zC 10005 rfl Tryz.func148 (by kernel_rfl)
def u2s(x:Z58):Option Bool:=zK 10004 x
def u2n (x:Z58):Option Bool:=((u3d x).bind fun y1=>(some (decide (y1≥0))))
theorem u59:u2s=u2n:=zC 10004 rfl Tryz.func261 (by kernel_rfl)
def u47(x:Z58):Option Bool:=zK 10003 x
def u9o (x:Z58):Option Bool:=((u2s x).bind fun y1=>(some y1))
theorem t8g:u47=u9o:=zC 10003 rfl Tryz.func127 (by kernel_rfl)
def u80(x:p73):Option Bool:=zK 163 x
def u9d(g:Z81→Option s8n)(x:Z81):Option s8n:=(bif (decide (x.2.2.2.2<x.2.2.2.1)) then(bif (y4q x.2.2.2.2 x.2.2.1.length) then(bif (decide ((rdL u0a x.2.2.1 (x.2.2.2.2).toNat).1≥x.2.1)) then(some (.inr false)) else(bif (decide (0≤(0:Int))&&decide ((0:Int)≤x.2.2.2.2)&&decide (x.2.2.2.2≤(x.1.length:Int))) then((u47 (((x.1.take (x.2.2.2.2).toNat).drop ((0:Int)).toNat),(rdL u0a x.2.2.1 (x.2.2.2.2).toNat))).bind fun y1=>(bif y1 then(some (.inr false)) else(g (x.1,(x.2.1,(x.2.2.1,(x.2.2.2.1,(IntKind.i64.wrap (x.2.2.2.2+1))))))))) else none)) else none) else(some (.inl ())))
def u9k:=lpW _ _ u9d
theorem s11 x:u9k x=u9d u9k x:=zW s08 163 Tryz.f163 2 26 x (by kernel_rfl)
def s6o (x:p73):Option Bool:=((u9k (x.1,(x.2,(x.1,((x.1.length:Int),0))))).bind fun r2=>match r2 with | .inl o3=>(some true) | .inr z4=>(some z4))
theorem q02:u80=s6o:=zC 163 rfl Tryz.func163 (by kernel_rfl)
def u89(x:(Unit×Int)):Option r7w:=zK 290 x
def t5q (x:(Unit×Int)):Option r7w:=(bif (decide (x.2<0)) then none else(bif (decide ((IntKind.i64.wrap (x.2 - (IntKind.i64.wrap ((0:Int) - (0:Int))))) >0)) then(bif (decide (0≤(0:Int))&&decide ((0:Int)≤(0:Int))&&decide ((0:Int)≤0)) then(bif (decide (1≤(IntKind.i64.wrap (x.2 - (IntKind.i64.wrap ((0:Int) - (0:Int))))))&&decide ((IntKind.i64.wrap (x.2 - (IntKind.i64.wrap ((0:Int) - (0:Int)))))≤1099511627776)) then(bif (decide (0≤(0:Int))&&decide ((0:Int)≤(0:Int))&&decide ((0:Int)≤((List.replicate ((IntKind.i64.wrap (x.2 - (IntKind.i64.wrap ((0:Int) - (0:Int)))))).toNat (u0a).zero).length:Int))) then(some ((List.replicate ((IntKind.i64.wrap (x.2 - (IntKind.i64.wrap ((0:Int) - (0:Int)))))).toNat (u0a).zero).take (((0:Int)).toNat - ((0:Int)).toNat))) else none) else none) else none) else(some ([] :List u0a.den))))
theorem s8r:u89=t5q:=zC 290 rfl Tryz.func290 (by kernel_rfl)
def u22(x:p9w):Option r7w:=zK 164 x
def u31(g:Z73→Option (o51⊕Unit))(x:Z73):Option (o51⊕Unit):=(bif (decide (x.2.2.2.2<x.2.2.2.1)) then(bif (y4q x.2.2.2.2 x.2.2.1.length) then(bif (decide ((IntKind.i64.wrap (x.2.1+((rdL (Ty.sl u0a) x.2.2.1 (x.2.2.2.2).toNat).length:Int)))<0)) then none else(g (x.1,((IntKind.i64.wrap (x.2.1+((rdL (Ty.sl u0a) x.2.2.1 (x.2.2.2.2).toNat).length:Int))),(x.2.2.1,(x.2.2.2.1,(IntKind.i64.wrap (x.2.2.2.2+1)))))))) else none) else(some (.inl (x.1,x.2.1))))
def u2h:=lpW _ _ u31
theorem t1y x:u2h x=u31 u2h x:=zW t1u 164 Tryz.f164 3 36 x (by kernel_rfl)
def u3g(g:Z82→Option p98)(x:Z82):Option p98:=(bif (decide (x.2.2.2<x.2.2.1)) then(bif (y4q x.2.2.2 x.2.1.length) then(bif (Nat.ble (x.1.length+(rdL (Ty.sl u0a) x.2.1 (x.2.2.2).toNat).length) z7w) then(g ((x.1++(rdL (Ty.sl u0a) x.2.1 (x.2.2.2).toNat)),(x.2.1,(x.2.2.1,(IntKind.i64.wrap (x.2.2.2+1)))))) else none) else none) else(some (.inl x.1)))
def u18:=lpW _ _ u3g
theorem t0d x:u18 x=u3g u18 x:=zW u97 164 Tryz.f164 11 36 x (by kernel_rfl)
def t36 (x:p9w):Option r7w:=((u2h (x,(0,(x,((x.length:Int),0))))).bind fun r1=>match r1 with | .inl o2=>((u89 ((),o2.2)).bind fun y3=>((u18 (y3,(o2.1,((o2.1.length:Int),0)))).bind fun r4=>match r4 with | .inl o5=>(some o5) | .inr z6=>none)) | .inr z7=>none)
theorem s3m:u22=t36:=zC 164 rfl Tryz.func164 (by kernel_rfl)
def u1e(x:o15):Option Bool:=zK 205 x
def r5y (x:o15):Option Bool:=(((bif (decide (x.1≥x.2.1)) then(some (decide (x.1≤x.2.2))) else(some false)):Option Bool).bind fun j1=>(some j1))
theorem q8v:u1e=r5y:=zC 205 rfl Tryz.func205 (by kernel_rfl)
def u7g(x:ByteArray):Option Bool:=zK 142 x
def t6b(g:p2d→Option o4a)(x:p2d):Option o4a:=(bif (decide (x.2<(x.1.size:Int))) then(((bif (y4q x.2 x.1.size) then(bif (decide (((x.1.data.toList.getD (x.2).toNat 0).toNat:Int)<(97:Int))) then(some true) else(bif (y4q x.2 x.1.size) then(some (decide (((x.1.data.toList.getD (x.2).toNat 0).toNat:Int) >(122:Int)))) else none)) else none):Option Bool).bind fun j1=>(bif j1 then(some (.inr false)) else(g (x.1,(IntKind.i64.wrap (x.2+1)))))) else(some (.inl x.1)))
def t6h:=lpW _ _ t6b
theorem r4r x:t6h x=t6b t6h x:=zW r4f 142 Tryz.f142 2 23 x (by kernel_rfl)
def r9j (x:ByteArray):Option Bool:=((t6h (x,0)).bind fun r2=>match r2 with | .inl o3=>((u1e ((o3.size:Int),(1,3))).bind fun y4=>(some y4)) | .inr z5=>(some z5))
theorem p0w:u7g=r9j:=zC 142 rfl Tryz.func142 (by kernel_rfl)
def s2c(x:p2f):Option Bool:=zK 208 x
def r22 (x:p2f):Option Bool:=((((u7g x.1).bind fun y1=>(bif y1 then((u7g x.2).bind fun y2=>(bif y2 then(some (y3c x.1 x.2 || z7o x.1 x.2)) else(some false))) else(some false))):Option Bool).bind fun j3=>(some j3))
theorem q5b:s2c=r22:=zC 208 rfl Tryz.func208 (by kernel_rfl)
def s2h(x:p97):Option Bool:=zK 157 x
def r3c (x:p97):Option Bool:=((((u7g x.1).bind fun y1=>(bif y1 then(bif (decide ((x.2.1.size:Int)≤(12:Int))) then(bif (!x.2.2) then(some true) else(some (z7o x.2.1 (⟨#[]⟩:ByteArray)))) else(some false)) else(some false))):Option Bool).bind fun j2=>(some j2))
theorem q5l:s2h=r3c:=zC 157 rfl Tryz.func157 (by kernel_rfl)
def t9r(x:q7v):Option Bool:=zK 291 x
def t0l(g:o5u→Option (q7v⊕Bool))(x:o5u):Option (q7v⊕Bool):=(bif (decide (x.2.2.2<x.2.2.1)) then(bif (y4q x.2.2.2 x.2.1.length) then((((s2h (rdL u2v x.2.1 (x.2.2.2).toNat)).bind fun y1=>(bif (!y1) then(some true) else(bif (decide (x.2.2.2 >0)) then(bif (y4q (IntKind.i64.wrap (x.2.2.2 - 1)) x.1.length) then(some (!y3c (rdL u2v x.1 ((IntKind.i64.wrap (x.2.2.2 - 1))).toNat).1 (rdL u2v x.2.1 (x.2.2.2).toNat).1)) else none) else(some false)))):Option Bool).bind fun j2=>(bif j2 then(some (.inr false)) else(g (x.1,(x.2.1,(x.2.2.1,(IntKind.i64.wrap (x.2.2.2+1)))))))) else none) else(some (.inl x.1)))
def t07:=lpW _ _ t0l
theorem s4y x:t07 x=t0l t07 x:=zW s3x 291 Tryz.f291 2 34 x (by kernel_rfl)
def s9h (x:q7v):Option Bool:=((t07 (x,(x,((x.length:Int),0)))).bind fun r3=>match r3 with | .inl o4=>(some (decide ((o4.length:Int)≤(8:Int)))) | .inr z5=>(some z5))
theorem q2x:t9r=s9h:=zC 291 rfl Tryz.func291 (by kernel_rfl)
def u56(x:Z84):Option Bool:=zK 165 x
def t6c(g:Z63→Option (Z84⊕Bool))(x:Z63):Option (Z84⊕Bool):=(bif (decide (x.2.2.2<x.2.2.1)) then(bif (y4q x.2.2.2 x.2.1.length) then((s2c (rdL r4y x.2.1 (x.2.2.2).toNat)).bind fun y1=>(bif (!y1) then(some (.inr false)) else(g (x.1,(x.2.1,(x.2.2.1,(IntKind.i64.wrap (x.2.2.2+1)))))))) else none) else(some (.inl x.1)))
def t6i:=lpW _ _ t6c
theorem r4s x:t6i x=t6c t6i x:=zW r4g 165 Tryz.f165 2 93 x (by kernel_rfl)
def r9n (x:Z84):Option Bool:=((t6i (x,(x.2.2.2.2.1,((x.2.2.2.2.1.length:Int),0)))).bind fun r2=>match r2 with | .inl o3=>((((u1e (o3.1,(1,9999))).bind fun y4=>(bif (!y4) then(some true) else((u1e (o3.2.1,(1,3))).bind fun y5=>(bif (!y5) then(some true) else((u1e (o3.2.2.1,(0,9999))).bind fun y6=>(bif (!y6) then(some true) else(bif (decide ((o3.2.2.2.2.1.length:Int) >(8:Int))) then(some true) else((t9r o3.2.2.2.2.2.1).bind fun y7=>(bif (!y7) then(some true) else(bif o3.2.2.2.2.2.2.1 then(some (decide (o3.2.1=1))) else(some false))))))))))):Option Bool).bind fun j8=>(bif j8 then(some false) else(((bif (decide (o3.2.1=3)) then((u1e (o3.2.2.2.1,((IntKind.i64.wrap (o3.2.2.1+1)),9999))).bind fun y9=>(bif (!y9) then(some true) else(bif (!decide (o3.2.1=3)) then(some (!decide (o3.2.2.2.1=0))) else(some false)))) else(bif (!decide (o3.2.1=3)) then(some (!decide (o3.2.2.2.1=0))) else(some false))):Option Bool).bind fun j10=>(bif j10 then(some false) else(((bif (decide (o3.2.1=2)) then((u7g o3.2.2.2.2.2.2.2).bind fun y11=>(bif y11 then(some true) else(bif (!decide (o3.2.1=2)) then(some (z7o o3.2.2.2.2.2.2.2 (⟨#[]⟩:ByteArray))) else(some false)))) else(bif (!decide (o3.2.1=2)) then(some (z7o o3.2.2.2.2.2.2.2 (⟨#[]⟩:ByteArray))) else(some false))):Option Bool).bind fun j12=>(some j12)))))) | .inr z13=>(some z13))
theorem p00:u56=r9n:=zC 165 rfl Tryz.func165 (by kernel_rfl)
def t6u(x:Z84):Option Bool:=zK 195 x
def q40 (x:Z84):Option Bool:=(some (decide (x.2.1=2)))
theorem q5o:t6u=q40:=zC 195 rfl Tryz.func195 (by kernel_rfl)
def u9r(x:ByteArray):Option Bool:=zK 433 x
def s0v (x:ByteArray):Option Bool:=(some (!z7o x x))
theorem r6x:u9r=s0v:=zC 433 rfl Tryz.func433 (by kernel_rfl)
def t14(x:p2f):Option Int:=zK 372 x
def t7z (x:p2f):Option Int:=((u9r x.1).bind fun y1=>((u9r x.2).bind fun y2=>(bif y1 then(bif y2 then(some (0:Int)) else(some (-1:Int))) else(bif y2 then(some (1:Int)) else(bif (y3c x.1 x.2) then(some (-1:Int)) else(bif (!(y3c x.1 x.2 || z7o x.1 x.2)) then(some (1:Int)) else(some (0:Int))))))))
theorem r2k:t14=t7z:=zC 372 rfl Tryz.func372 (by kernel_rfl)
def t47(x:Int):Option Bool:=zK 434 x
def s85 (x:Int):Option Bool:=(some (!decide (x=x)))
theorem q2k:t47=s85:=zC 434 rfl Tryz.func434 (by kernel_rfl)
def t5u(x:p4t):Option Int:=zK 373 x
def s23 (x:p4t):Option Int:=((t47 x.1).bind fun y1=>((t47 x.2).bind fun y2=>(bif y1 then(bif y2 then(some (0:Int)) else(some (-1:Int))) else(bif y2 then(some (1:Int)) else(bif (decide (x.1<x.2)) then(some (-1:Int)) else(bif (decide (x.1 >x.2)) then(some (1:Int)) else(some (0:Int))))))))
theorem r75:t5u=s23:=zC 373 rfl Tryz.func373 (by kernel_rfl)
def u4h(x:Z92):Option Int:=zK 256 x
def u94 (x:Z92):Option Int:=((t14 (x.1.1,x.2.1)).bind fun y1=>(bif (!decide (y1=0)) then(some y1) else((t5u (x.1.2.2.2,x.2.2.2.2)).bind fun y2=>(some y2))))
theorem t7f:u4h=u94:=zC 256 rfl Tryz.func256 (by kernel_rfl)
def t5x(x:s6c):Option Bool:=zK 204 x
def u7o(g:o3n→Option (s6c⊕Bool))(x:o3n):Option (s6c⊕Bool):=(bif (decide (x.2.2.2<x.2.2.1)) then(bif (y4q x.2.2.2 x.2.1.length) then((((u7g (rdL u0d x.2.1 (x.2.2.2).toNat).1).bind fun y1=>(bif (!y1) then(some true) else(bif (decide (((rdL u0d x.2.1 (x.2.2.2).toNat).2.1.size:Int) >(12:Int))) then(some true) else(bif (rdL u0d x.2.1 (x.2.2.2).toNat).2.2.1 then(bif (!z7o (rdL u0d x.2.1 (x.2.2.2).toNat).2.1 (⟨#[]⟩:ByteArray)) then(some true) else((u1e ((rdL u0d x.2.1 (x.2.2.2).toNat).2.2.2,(1,9999))).bind fun y2=>(bif (!y2) then(some true) else(bif (decide (x.2.2.2 >0)) then(bif (y4q (IntKind.i64.wrap (x.2.2.2 - 1)) x.1.length) then((u4h ((rdL u0d x.1 ((IntKind.i64.wrap (x.2.2.2 - 1))).toNat),(rdL u0d x.2.1 (x.2.2.2).toNat))).bind fun y3=>(some (decide (y3≥0)))) else none) else(some false))))) else((u1e ((rdL u0d x.2.1 (x.2.2.2).toNat).2.2.2,(1,9999))).bind fun y4=>(bif (!y4) then(some true) else(bif (decide (x.2.2.2 >0)) then(bif (y4q (IntKind.i64.wrap (x.2.2.2 - 1)) x.1.length) then((u4h ((rdL u0d x.1 ((IntKind.i64.wrap (x.2.2.2 - 1))).toNat),(rdL u0d x.2.1 (x.2.2.2).toNat))).bind fun y5=>(some (decide (y5≥0)))) else none) else(some false)))))))):Option Bool).bind fun j6=>(bif j6 then(some (.inr false)) else(g (x.1,(x.2.1,(x.2.2.1,(IntKind.i64.wrap (x.2.2.2+1)))))))) else none) else(some (.inl x.1)))
def u7v:=lpW _ _ u7o
theorem s0k x:u7v x=u7o u7v x:=zW t89 204 Tryz.f204 2 55 x (by kernel_rfl)
def s29 (x:s6c):Option Bool:=((u7v (x,(x,((x.length:Int),0)))).bind fun r7=>match r7 with | .inl o8=>(some (decide ((o8.length:Int)≤(120:Int)))) | .inr z9=>(some z9))
theorem r8b:t5x=s29:=zC 204 rfl Tryz.func204 (by kernel_rfl)
def u2e(x:Z71):Option Bool:=zK 76 x
def t4f(g:Z38→Option p99)(x:Z38):Option p99:=(bif (decide (x.2.2.2<x.2.2.1)) then(bif (y4q x.2.2.2 x.2.1.length) then(bif (decide ((rdL u0d x.2.1 (x.2.2.2).toNat).2.2.2 >x.1.2.2.2.1)) then(some (.inr false)) else(g (x.1,(x.2.1,(x.2.2.1,(IntKind.i64.wrap (x.2.2.2+1))))))) else none) else(some (.inl x.1)))
def u9x:=lpW _ _ t4f
theorem r1q x:u9x x=t4f u9x x:=zW r0n 76 Tryz.f76 4 139 x (by kernel_rfl)
def t2k(g:Z35→Option p99)(x:Z35):Option p99:=(bif (decide (x.2.2.2<x.2.2.1)) then(bif (y4q x.2.2.2 x.2.1.length) then((((u56 (rdL u0a x.2.1 (x.2.2.2).toNat)).bind fun y7=>(bif (!y7) then(some true) else((t5c (rdL u0a x.2.1 (x.2.2.2).toNat)).bind fun y8=>(bif (!y8) then(some true) else(bif (decide ((rdL u0a x.2.1 (x.2.2.2).toNat).2.2.2.1 >x.1.2.2.2.1)) then(some true) else(bif (decide (x.2.2.2 >0)) then(bif (y4q (IntKind.i64.wrap (x.2.2.2 - 1)) x.1.2.1.length) then(some (decide ((rdL u0a x.1.2.1 ((IntKind.i64.wrap (x.2.2.2 - 1))).toNat).2.2.2.1≥(rdL u0a x.2.1 (x.2.2.2).toNat).2.2.2.1))) else none) else(some false))))))):Option Bool).bind fun j9=>(bif j9 then(some (.inr false)) else(g (x.1,(x.2.1,(x.2.2.1,(IntKind.i64.wrap (x.2.2.2+1)))))))) else none) else(some (.inl x.1)))
def u8f:=lpW _ _ t2k
theorem s7v x:u8f x=t2k u8f x:=zW s60 76 Tryz.f76 10 139 x (by kernel_rfl)
def t2l(g:Z35→Option p99)(x:Z35):Option p99:=(bif (decide (x.2.2.2<x.2.2.1)) then(bif (y4q x.2.2.2 x.2.1.length) then((((u56 (rdL u0a x.2.1 (x.2.2.2).toNat)).bind fun y12=>(bif (!y12) then(some true) else((t6u (rdL u0a x.2.1 (x.2.2.2).toNat)).bind fun y13=>(bif (!y13) then(some true) else(bif (decide ((rdL u0a x.2.1 (x.2.2.2).toNat).2.2.1 >x.1.2.2.2.1)) then(some true) else(bif (decide (x.2.2.2 >0)) then(bif (y4q (IntKind.i64.wrap (x.2.2.2 - 1)) x.1.2.2.1.length) then(some (!y3c (rdL u0a x.1.2.2.1 ((IntKind.i64.wrap (x.2.2.2 - 1))).toNat).2.2.2.2.2.2.2 (rdL u0a x.2.1 (x.2.2.2).toNat).2.2.2.2.2.2.2)) else none) else(some false))))))):Option Bool).bind fun j14=>(bif j14 then(some (.inr false)) else(g (x.1,(x.2.1,(x.2.2.1,(IntKind.i64.wrap (x.2.2.2+1)))))))) else none) else(some (.inl x.1)))
def u8g:=lpW _ _ t2l
theorem s7w x:u8g x=t2l u8g x:=zW s61 76 Tryz.f76 16 139 x (by kernel_rfl)
def r5l (x:Z71):Option Bool:=((((t5x x.1).bind fun y1=>(bif (!y1) then(some true) else(bif (decide ((x.2.1.length:Int) >(12:Int))) then(some true) else(bif (decide ((x.2.2.1.length:Int) >(3:Int))) then(some true) else((u1e (x.2.2.2.1,(0,9999))).bind fun y2=>(bif (!y2) then(some true) else((u1e (x.2.2.2.2,(1,9999))).bind fun y3=>(some (!y3))))))))):Option Bool).bind fun j4=>(bif j4 then(some false) else((u9x (x,(x.1,((x.1.length:Int),0)))).bind fun r5=>match r5 with | .inl o6=>((u8f (o6,(o6.2.1,((o6.2.1.length:Int),0)))).bind fun r10=>match r10 with | .inl o11=>((u8g (o11,(o11.2.2.1,((o11.2.2.1.length:Int),0)))).bind fun r15=>match r15 with | .inl o16=>((u22 ([o16.2.1,o16.2.2.1] :List r7w)).bind fun y17=>((u80 (y17,o16.2.2.2.2)).bind fun y18=>(some y18))) | .inr z19=>(some z19)) | .inr z20=>(some z20)) | .inr z21=>(some z21))))
theorem q8k:u2e=r5l:=zC 76 rfl Tryz.func76 (by kernel_rfl)
def u84(x:Int):Option s2v:=zK 312 x
def s6e(g:o0a→Option (o0a⊕Unit))(x:o0a):Option (o0a⊕Unit):=(bif (decide (x.1 >127)) then(bif (Nat.ble (x.2.length+([(IntKind.u8.wrap (IntKind.i64.wrap ((Int.tmod x.1 (128:Int))+128)))] :List Int).length) z7w) then(g ((IntKind.i64.wrap (Int.tdiv x.1 (128:Int))),(x.2++([(IntKind.u8.wrap (IntKind.i64.wrap ((Int.tmod x.1 (128:Int))+128)))] :List Int)))) else none) else(some (.inl x)))
def t3f:=lpW _ _ s6e
theorem q1i x:t3f x=s6e t3f x:=zW s7b 312 Tryz.f312 4 25 x (by kernel_rfl)
def r3b (x:Int):Option s2v:=((u1e (x,(0,1000000000))).bind fun y1=>(bif (!y1) then(some ((⟨#[]⟩:ByteArray),false)) else((t3f (x,([] :List Int))).bind fun r2=>match r2 with | .inl o3=>(bif (Nat.ble (o3.2.length+([(IntKind.u8.wrap o3.1)] :List Int).length) z7w) then(some ((y7g (o3.2++([(IntKind.u8.wrap o3.1)] :List Int))),true)) else none) | .inr z4=>none)))
theorem q5k:u84=r3b:=zC 312 rfl Tryz.func312 (by kernel_rfl)
def t3q(x:ByteArray):Option s2v:=zK 294 x
def s6k (x:ByteArray):Option s2v:=(bif (decide ((x.size:Int) >(20000:Int))) then(some ((⟨#[]⟩:ByteArray),false)) else((u84 (x.size:Int)).bind fun y1=>(bif (decide (y1.1.size+x.size≤140737488355328)) then(some ((y1.1++x),true)) else none)))
theorem q0x:t3q=s6k:=zC 294 rfl Tryz.func294 (by kernel_rfl)
def u4x(x:(q94×r5e)):Option q94:=zK 167 x
def u9e(g:o53→Option o1v)(x:o53):Option o1v:=(bif (decide (x.2.2.2<x.2.2.1)) then(bif (y4q x.2.2.2 x.2.1.length) then((t3q (rdL Ty.str x.2.1 (x.2.2.2).toNat)).bind fun y1=>(bif (Nat.ble (x.1.length+(z7t y1.1).length) z7w) then(g ((x.1++(z7t y1.1)),(x.2.1,(x.2.2.1,(IntKind.i64.wrap (x.2.2.2+1)))))) else none)) else none) else(some (.inl x.1)))
def u9l:=lpW _ _ u9e
theorem s12 x:u9l x=u9e u9l x:=zW s09 167 Tryz.f167 1 29 x (by kernel_rfl)
def s6q (x:(q94×r5e)):Option q94:=((u9l (x.1,(x.2,((x.2.length:Int),0)))).bind fun r2=>match r2 with | .inl o3=>(some o3) | .inr z4=>none)
theorem q04:u4x=s6q:=zC 167 rfl Tryz.func167 (by kernel_rfl)
def u5x(x:(q94×Bool)):Option q94:=zK 168 x
def s6p (x:(q94×Bool)):Option q94:=(bif x.2 then(bif (Nat.ble (x.1.length+([(1:Int)] :List Int).length) z7w) then(some (x.1++([(1:Int)] :List Int))) else none) else(bif (Nat.ble (x.1.length+([(0:Int)] :List Int).length) z7w) then(some (x.1++([(0:Int)] :List Int))) else none))
theorem q03:u5x=s6p:=zC 168 rfl Tryz.func168 (by kernel_rfl)
def u4i(x:(q94×q94)):Option q94:=zK 184 x
def t0n(g:o56→Option o1v)(x:o56):Option o1v:=(bif (decide (x.2.2.2<x.2.2.1)) then(bif (y4q x.2.2.2 x.2.1.length) then((u84 (rdL (Ty.int .i64) x.2.1 (x.2.2.2).toNat)).bind fun y1=>(bif (Nat.ble (x.1.length+(z7t y1.1).length) z7w) then(g ((x.1++(z7t y1.1)),(x.2.1,(x.2.2.1,(IntKind.i64.wrap (x.2.2.2+1)))))) else none)) else none) else(some (.inl x.1)))
def t09:=lpW _ _ t0n
theorem s40 x:t09 x=t0n t09 x:=zW s3z 184 Tryz.f184 1 29 x (by kernel_rfl)
def s9l (x:(q94×q94)):Option q94:=((t09 (x.1,(x.2,((x.2.length:Int),0)))).bind fun r2=>match r2 with | .inl o3=>(some o3) | .inr z4=>none)
theorem q21:u4i=s9l:=zC 184 rfl Tryz.func184 (by kernel_rfl)
def u83(x:Z84):Option s2v:=zK 169 x
def t2t(g:Z49→Option (Z77⊕Unit))(x:Z49):Option (Z77⊕Unit):=(bif (decide (x.2.2.2.2<x.2.2.2.1)) then(bif (y4q x.2.2.2.2 x.2.2.1.length) then((u4x (x.2.1,([(rdL r4y x.2.2.1 (x.2.2.2.2).toNat).1,(rdL r4y x.2.2.1 (x.2.2.2.2).toNat).2] :List ByteArray))).bind fun y3=>(g (x.1,(y3,(x.2.2.1,(x.2.2.2.1,(IntKind.i64.wrap (x.2.2.2.2+1)))))))) else none) else(some (.inl (x.1,x.2.1))))
def u8j:=lpW _ _ t2t
theorem s74 x:u8j x=t2t u8j x:=zW s7a 169 Tryz.f169 6 82 x (by kernel_rfl)
def t0k(g:Z48→Option (Z77⊕Unit))(x:Z48):Option (Z77⊕Unit):=(bif (decide (x.2.2.2.2<x.2.2.2.1)) then(bif (y4q x.2.2.2.2 x.2.2.1.length) then((u4x (x.2.1,([(rdL u2v x.2.2.1 (x.2.2.2.2).toNat).1,(rdL u2v x.2.2.1 (x.2.2.2.2).toNat).2.1] :List ByteArray))).bind fun y7=>((u5x (y7,(rdL u2v x.2.2.1 (x.2.2.2.2).toNat).2.2)).bind fun y8=>(g (x.1,(y8,(x.2.2.1,(x.2.2.2.1,(IntKind.i64.wrap (x.2.2.2.2+1))))))))) else none) else(some (.inl (x.1,x.2.1))))
def u6n:=lpW _ _ t0k
theorem s4x x:u6n x=t0k u6n x:=zW s3w 169 Tryz.f169 12 82 x (by kernel_rfl)
def r3a (x:Z84):Option s2v:=((u56 x).bind fun y1=>(bif (!y1) then(some ((⟨#[]⟩:ByteArray),false)) else((u4i (([] :List Int),([x.1,x.2.1,x.2.2.1,x.2.2.2.1,(x.2.2.2.2.1.length:Int)] :List Int))).bind fun y2=>((u8j (x,(y2,(x.2.2.2.2.1,((x.2.2.2.2.1.length:Int),0))))).bind fun r4=>match r4 with | .inl o5=>((u4i (o5.2,([(o5.1.2.2.2.2.2.1.length:Int)] :List Int))).bind fun y6=>((u6n (o5.1,(y6,(o5.1.2.2.2.2.2.1,((o5.1.2.2.2.2.2.1.length:Int),0))))).bind fun r9=>match r9 with | .inl o10=>((u5x (o10.2,o10.1.2.2.2.2.2.2.1)).bind fun y11=>((u4x (y11,([o10.1.2.2.2.2.2.2.2] :List ByteArray))).bind fun y12=>(some ((y7g y12),true)))) | .inr z13=>none)) | .inr z14=>none))))
theorem q5j:u83=r3a:=zC 169 rfl Tryz.func169 (by kernel_rfl)
def t9j(x:Z71):Option s2v:=zK 62 x
def t0e(g:Z36→Option (Z60⊕Unit))(x:Z36):Option (Z60⊕Unit):=(bif (decide (x.2.2.2.2<x.2.2.2.1)) then(bif (y4q x.2.2.2.2 x.2.2.1.length) then((u4x (x.2.1,([(rdL u0d x.2.2.1 (x.2.2.2.2).toNat).1,(rdL u0d x.2.2.1 (x.2.2.2.2).toNat).2.1] :List ByteArray))).bind fun y3=>((u5x (y3,(rdL u0d x.2.2.1 (x.2.2.2.2).toNat).2.2.1)).bind fun y4=>((u4i (y4,([(rdL u0d x.2.2.1 (x.2.2.2.2).toNat).2.2.2] :List Int))).bind fun y5=>(g (x.1,(y5,(x.2.2.1,(x.2.2.2.1,(IntKind.i64.wrap (x.2.2.2.2+1)))))))))) else none) else(some (.inl (x.1,x.2.1))))
def u6m:=lpW _ _ t0e
theorem s4r x:u6m x=t0e u6m x:=zW s3q 62 Tryz.f62 6 94 x (by kernel_rfl)
def u9a(g:Z61→Option (o3k⊕Unit))(x:Z61):Option (o3k⊕Unit):=(bif (decide (x.2.2.2.2.2.2<x.2.2.2.2.2.1)) then(bif (y4q x.2.2.2.2.2.2 x.2.2.2.2.1.length) then((u83 (rdL u0a x.2.2.2.2.1 (x.2.2.2.2.2.2).toNat)).bind fun y9=>(bif (Nat.ble (x.1.length+(z7t y9.1).length) z7w) then(g ((x.1++(z7t y9.1)),(x.2.1,(x.2.2.1,(x.2.2.2.1,(x.2.2.2.2.1,(x.2.2.2.2.2.1,(IntKind.i64.wrap (x.2.2.2.2.2.2+1))))))))) else none)) else none) else(some (.inl (x.1,(x.2.1,(x.2.2.1,x.2.2.2.1))))))
def u51:=lpW _ _ u9a
theorem s1y x:u51 x=u9a u51 x:=zW s05 62 Tryz.f62 17 94 x (by kernel_rfl)
def u5z(g:o3k→Option o1v)(x:o3k):Option o1v:=(bif (decide (x.2.2.2<x.2.2.1)) then(bif (y4q x.2.2.2 x.2.1.length) then((u4i (x.1,([((rdL (Ty.sl u0a) x.2.1 (x.2.2.2).toNat).length:Int)] :List Int))).bind fun y8=>((u51 (y8,(x.2.1,(x.2.2.1,(x.2.2.2,((rdL (Ty.sl u0a) x.2.1 (x.2.2.2).toNat),(((rdL (Ty.sl u0a) x.2.1 (x.2.2.2).toNat).length:Int),0))))))).bind fun r10=>match r10 with | .inl o11=>(g (o11.1,(o11.2.1,(o11.2.2.1,(IntKind.i64.wrap (o11.2.2.2+1)))))) | .inr z12=>(some (.inr ())))) else none) else(some (.inl x.1)))
def u9j:=lpW _ _ u5z
theorem t5p x:u9j x=u5z u9j x:=zW s04 62 Tryz.f62 13 94 x (by kernel_rfl)
def s87 (x:Z71):Option s2v:=((u2e x).bind fun y1=>(bif (!y1) then(some ((⟨#[]⟩:ByteArray),false)) else((u4i (([] :List Int),([x.2.2.2.1,x.2.2.2.2,(x.1.length:Int)] :List Int))).bind fun y2=>((u6m (x,(y2,(x.1,((x.1.length:Int),0))))).bind fun r6=>match r6 with | .inl o7=>((u9j (o7.2,(([o7.1.2.1,o7.1.2.2.1] :List r7w),((([o7.1.2.1,o7.1.2.2.1] :List r7w).length:Int),0)))).bind fun r13=>match r13 with | .inl o14=>(some ((y7g o14),true)) | .inr z15=>none) | .inr z16=>none))))
theorem q2m:t9j=s87:=zC 62 rfl Tryz.func62 (by kernel_rfl)
def t9s(x:Z84):Option Bool:=zK 193 x
def s9k (x:Z84):Option Bool:=(((bif (decide (x.1=0)) then(bif (decide (x.2.1=0)) then(bif (decide (x.2.2.1=0)) then(bif (decide (x.2.2.2.1=0)) then(bif (decide ((x.2.2.2.2.1.length:Int)=(0:Int))) then(bif (decide ((x.2.2.2.2.2.1.length:Int)=(0:Int))) then(bif (!x.2.2.2.2.2.2.1) then(some (z7o x.2.2.2.2.2.2.2 (⟨#[]⟩:ByteArray))) else(some false)) else(some false)) else(some false)) else(some false)) else(some false)) else(some false)) else(some false)):Option Bool).bind fun j1=>(some j1))
theorem q20:t9s=s9k:=zC 193 rfl Tryz.func193 (by kernel_rfl)
def t7t(x:Z71):Option Bool:=zK 194 x
def s6m (x:Z71):Option Bool:=(((bif (decide ((x.1.length:Int)=(0:Int))) then(bif (decide ((x.2.1.length:Int)=(0:Int))) then(bif (decide ((x.2.2.1.length:Int)=(0:Int))) then(bif (decide (x.2.2.2.1=0)) then(some (decide (x.2.2.2.2=0))) else(some false)) else(some false)) else(some false)) else(some false)):Option Bool).bind fun j1=>(some j1))
theorem q00:t7t=s6m:=zC 194 rfl Tryz.func194 (by kernel_rfl)
def t48(x:Z23):Option Bool:=zK 67 x
def s9e (x:Z23):Option Bool:=((t9s x.2.1).bind fun y1=>((t7t x.2.2.2.2).bind fun y2=>(bif (decide (x.1=1)) then((((u56 x.2.1).bind fun y3=>(bif y3 then((t5c x.2.1).bind fun y4=>(some y4)) else(some false))):Option Bool).bind fun j5=>(((bif j5 then(bif (z7o x.2.2.1 (⟨#[]⟩:ByteArray)) then(bif y2 then(bif (!x.2.2.2.1) then(some true) else(some (decide (x.1=3)))) else(some false)) else(some false)) else(some false)):Option Bool).bind fun j6=>(some j6))) else(bif (decide (x.1=2)) then((((u56 x.2.1).bind fun y7=>(bif y7 then((t6u x.2.1).bind fun y8=>(some y8)) else(some false))):Option Bool).bind fun j9=>(((bif j9 then(bif (z7o x.2.2.1 (⟨#[]⟩:ByteArray)) then(bif y2 then(bif (!x.2.2.2.1) then(some true) else(some (decide (x.1=3)))) else(some false)) else(some false)) else(some false)):Option Bool).bind fun j10=>(some j10))) else(bif (decide (x.1=3)) then((u7g x.2.2.1).bind fun y11=>(((bif y1 then(bif y11 then(bif y2 then(bif (!x.2.2.2.1) then(some true) else(some (decide (x.1=3)))) else(some false)) else(some false)) else(some false)):Option Bool).bind fun j12=>(some j12))) else(bif (decide (x.1=4)) then((u2e x.2.2.2.2).bind fun y13=>(((bif y1 then(bif (z7o x.2.2.1 (⟨#[]⟩:ByteArray)) then(bif y13 then(bif (!x.2.2.2.1) then(some true) else(some (decide (x.1=3)))) else(some false)) else(some false)) else(some false)):Option Bool).bind fun j14=>(some j14))) else(some false)))))))
theorem q2t:t48=s9e:=zC 67 rfl Tryz.func67 (by kernel_rfl)
def s2e(x:p77):Option Int:=zK 390 x
def s6d(g:o38→Option (o0b⊕Unit))(x:o38):Option (o0b⊕Unit):=(bif (decide (x.2.2.2<8)) then(bif (decide ((Int.tmod x.1 (2:Int))=1)) then(g ((IntKind.u32.wrap ((BitVec.ofInt (IntKind.u32).bits (IntKind.u32.wrap (Int.tdiv x.1 (2:Int)))^^^BitVec.ofInt (IntKind.u32).bits (3558460437:Int)).toNat:Int)),(x.2.1,(x.2.2.1,(IntKind.i64.wrap (x.2.2.2+1)))))) else(g ((IntKind.u32.wrap (Int.tdiv x.1 (2:Int))),(x.2.1,(x.2.2.1,(IntKind.i64.wrap (x.2.2.2+1))))))) else(some (.inl (x.1,(x.2.1,x.2.2.1)))))
def t3d:=lpW _ _ s6d
theorem q1h x:t3d x=s6d t3d x:=zW s65 390 Tryz.f390 6 33 x (by kernel_rfl)
def t2o(g:o0b→Option p4v)(x:o0b):Option p4v:=(bif (decide (x.2.2<(x.2.1.size:Int))) then(bif (y4q x.2.2 x.2.1.size) then((t3d ((IntKind.u32.wrap ((BitVec.ofInt (IntKind.u32).bits x.1^^^BitVec.ofInt (IntKind.u32).bits (IntKind.u32.wrap ((x.2.1.data.toList.getD (x.2.2).toNat 0).toNat:Int))).toNat:Int)),(x.2.1,(x.2.2,0)))).bind fun r1=>match r1 with | .inl o2=>(g (o2.1,(o2.2.1,(IntKind.i64.wrap (o2.2.2+1))))) | .inr z3=>(some (.inr ()))) else none) else(some (.inl x.1)))
def t3c:=lpW _ _ t2o
theorem s7z x:t3c x=t2o t3c x:=zW s64 390 Tryz.f390 2 33 x (by kernel_rfl)
def r26 (x:p77):Option Int:=((t3c (x.1,(x.2,0))).bind fun r4=>match r4 with | .inl o5=>(some o5) | .inr z6=>none)
theorem q5f:s2e=r26:=zC 390 rfl Tryz.func390 (by kernel_rfl)
def q0e(x:ByteArray):Option Int:=zK 295 x
def r9m (x:ByteArray):Option Int:=((s2e (4294967295,x)).bind fun y1=>(some y1))
theorem p0z:q0e=r9m:=zC 295 rfl Tryz.func295 (by kernel_rfl)
def t1l(x:ByteArray):Option s2v:=zK 170 x
def r5q (x:ByteArray):Option s2v:=(bif (decide ((x.size:Int) >(20000:Int))) then(some ((⟨#[]⟩:ByteArray),false)) else((q0e x).bind fun y1=>(bif (decide (x.size+(y7g ([(IntKind.u8.wrap (Int.fdiv y1 (2^(min ((24:Int)).toNat (IntKind.u32).bits)))),(IntKind.u8.wrap (Int.fdiv y1 (2^(min ((16:Int)).toNat (IntKind.u32).bits)))),(IntKind.u8.wrap (Int.fdiv y1 (2^(min ((8:Int)).toNat (IntKind.u32).bits)))),(IntKind.u8.wrap y1)] :List Int)).size≤140737488355328)) then(some ((x++(y7g ([(IntKind.u8.wrap (Int.fdiv y1 (2^(min ((24:Int)).toNat (IntKind.u32).bits)))),(IntKind.u8.wrap (Int.fdiv y1 (2^(min ((16:Int)).toNat (IntKind.u32).bits)))),(IntKind.u8.wrap (Int.fdiv y1 (2^(min ((8:Int)).toNat (IntKind.u32).bits)))),(IntKind.u8.wrap y1)] :List Int))),true)) else none)))
theorem q8p:t1l=r5q:=zC 170 rfl Tryz.func170 (by kernel_rfl)
def u60(x:Z23):Option s2v:=zK 57 x
def s26 (x:Z23):Option s2v:=((t48 x).bind fun y1=>(bif (!y1) then(some ((⟨#[]⟩:ByteArray),false)) else(bif (decide (x.1=3)) then((u4x (([(IntKind.u8.wrap x.1)] :List Int),([x.2.2.1] :List ByteArray))).bind fun y2=>((u5x (y2,x.2.2.2.1)).bind fun y3=>((t1l (y7g y3)).bind fun y4=>(some y4)))) else(bif (decide (x.1=4)) then((t9j x.2.2.2.2).bind fun y5=>(bif (Nat.ble (([(IntKind.u8.wrap x.1)] :List Int).length+(z7t y5.1).length) z7w) then((t1l (y7g (([(IntKind.u8.wrap x.1)] :List Int)++(z7t y5.1)))).bind fun y6=>(some y6)) else none)) else((u83 x.2.1).bind fun y7=>(bif (Nat.ble (([(IntKind.u8.wrap x.1)] :List Int).length+(z7t y7.1).length) z7w) then((t1l (y7g (([(IntKind.u8.wrap x.1)] :List Int)++(z7t y7.1)))).bind fun y8=>(some y8)) else none))))))
theorem r78:u60=s26:=zC 57 rfl Tryz.func57 (by kernel_rfl)
def t9q(x:ByteArray):Option s2v:=zK 171 x
def s9g (x:ByteArray):Option s2v:=(bif (decide ((x.size:Int)<(4:Int))) then(some ((⟨#[]⟩:ByteArray),false)) else(bif (decide (0≤(0:Int))&&decide ((0:Int)≤(IntKind.i64.wrap ((x.size:Int) - (4:Int))))&&decide ((IntKind.i64.wrap ((x.size:Int) - (4:Int)))≤(x.size:Int))) then((t1l (x.extract ((0:Int)).toNat ((IntKind.i64.wrap ((x.size:Int) - (4:Int)))).toNat)).bind fun y1=>(((bif (!y1.2) then(some true) else(some (!z7o y1.1 x))):Option Bool).bind fun j2=>(bif j2 then(some ((⟨#[]⟩:ByteArray),false)) else(some ((x.extract ((0:Int)).toNat ((IntKind.i64.wrap ((x.size:Int) - (4:Int)))).toNat),true))))) else none))
theorem q2w:t9q=s9g:=zC 171 rfl Tryz.func171 (by kernel_rfl)
def t6s(x:p2d):Option o0c:=zK 391 x
def t2n(g:(ByteArray×o15)→Option (Unit⊕o0c))(x:(ByteArray×o15)):Option (Unit⊕o0c):=(((bif (decide (x.2.2.2<5)) then(some (decide ((IntKind.i64.wrap (x.2.1+x.2.2.2))<(x.1.size:Int)))) else(some false)):Option Bool).bind fun j2=>(bif j2 then(bif (y4q (IntKind.i64.wrap (x.2.1+x.2.2.2)) x.1.size) then(bif (decide (0≤(IntKind.i64.wrap ((7:Int)*x.2.2.2)))) then(bif (decide ((IntKind.i64.wrap ((x.1.data.toList.getD ((IntKind.i64.wrap (x.2.1+x.2.2.2))).toNat 0).toNat:Int))<128)) then((u84 (IntKind.i64.wrap (x.2.2.1+(IntKind.i64.wrap ((Int.tmod (IntKind.i64.wrap ((x.1.data.toList.getD ((IntKind.i64.wrap (x.2.1+x.2.2.2))).toNat 0).toNat:Int)) (128:Int))*2^(min ((IntKind.i64.wrap ((7:Int)*x.2.2.2))).toNat (IntKind.i64).bits)))))).bind fun y3=>(((bif (!y3.2) then(some true) else(some (!decide ((y3.1.size:Int)=(IntKind.i64.wrap (x.2.2.2+1)))))):Option Bool).bind fun j4=>(bif j4 then(some (.inr (0,(0,false)))) else(some (.inr ((IntKind.i64.wrap (x.2.2.1+(IntKind.i64.wrap ((Int.tmod (IntKind.i64.wrap ((x.1.data.toList.getD ((IntKind.i64.wrap (x.2.1+x.2.2.2))).toNat 0).toNat:Int)) (128:Int))*2^(min ((IntKind.i64.wrap ((7:Int)*x.2.2.2))).toNat (IntKind.i64).bits))))),((IntKind.i64.wrap ((IntKind.i64.wrap (x.2.1+x.2.2.2))+1)),true))))))) else(g (x.1,(x.2.1,((IntKind.i64.wrap (x.2.2.1+(IntKind.i64.wrap ((Int.tmod (IntKind.i64.wrap ((x.1.data.toList.getD ((IntKind.i64.wrap (x.2.1+x.2.2.2))).toNat 0).toNat:Int)) (128:Int))*2^(min ((IntKind.i64.wrap ((7:Int)*x.2.2.2))).toNat (IntKind.i64).bits))))),(IntKind.i64.wrap (x.2.2.2+1))))))) else none) else none) else(some (.inl ()))))
def t3b:=lpW _ _ t2n
theorem s7y x:t3b x=t2n t3b x:=zW s63 391 Tryz.f391 5 63 x (by kernel_rfl)
def r23 (x:p2d):Option o0c:=((u1e (x.2,(0,(x.1.size:Int)))).bind fun y1=>(bif (!y1) then(some (0,(0,false))) else((t3b (x.1,(x.2,(0,0)))).bind fun r5=>match r5 with | .inl o6=>(some (0,(0,false))) | .inr z7=>(some z7))))
theorem q5c:t6s=r23:=zC 391 rfl Tryz.func391 (by kernel_rfl)
def t3o(x:p2d):Option r5f:=zK 296 x
def s6i (x:p2d):Option r5f:=((t6s x).bind fun y1=>(((bif (!y1.2.2) then(some true) else(bif (decide (y1.1 >20000)) then(some true) else(some (decide (y1.1 >(IntKind.i64.wrap ((x.1.size:Int) - y1.2.1))))))):Option Bool).bind fun j2=>(bif j2 then(some ((⟨#[]⟩:ByteArray),(0,false))) else(bif (decide (0≤y1.2.1)&&decide (y1.2.1≤(IntKind.i64.wrap (y1.2.1+y1.1)))&&decide ((IntKind.i64.wrap (y1.2.1+y1.1))≤(x.1.size:Int))) then(some ((x.1.extract (y1.2.1).toNat ((IntKind.i64.wrap (y1.2.1+y1.1))).toNat),((IntKind.i64.wrap (y1.2.1+y1.1)),true))) else none))))
theorem q0v:t3o=s6i:=zC 296 rfl Tryz.func296 (by kernel_rfl)
def u1x(x:r5f):Option o3y:=zK 172 x
def s0z (x:r5f):Option o3y:=((t3o (x.1,x.2.1)).bind fun y1=>(((bif x.2.2 then(some true) else(some (!y1.2.2))):Option Bool).bind fun j2=>(bif j2 then(some ((⟨#[]⟩:ByteArray),(x.1,(x.2.1,true)))) else(some (y1.1,(x.1,(y1.2.1,x.2.2)))))))
theorem r63:u1x=s0z:=zC 172 rfl Tryz.func172 (by kernel_rfl)
def u4s(x:r5f):Option (Bool×r5f):=zK 173 x
def s0y (x:r5f):Option (Bool×r5f):=(((bif x.2.2 then(some true) else((u1e (x.2.1,(0,(IntKind.i64.wrap ((x.1.size:Int) - (1:Int)))))).bind fun y1=>(bif (!y1) then(some true) else(bif (y4q x.2.1 x.1.size) then(some (decide (((x.1.data.toList.getD (x.2.1).toNat 0).toNat:Int) >(1:Int)))) else none)))):Option Bool).bind fun j2=>(bif j2 then(some (false,(x.1,(x.2.1,true)))) else(bif (y4q (IntKind.i64.wrap ((IntKind.i64.wrap (x.2.1+1)) - 1)) x.1.size) then(some ((decide (((x.1.data.toList.getD ((IntKind.i64.wrap ((IntKind.i64.wrap (x.2.1+1)) - 1))).toNat 0).toNat:Int)=(1:Int))),(x.1,((IntKind.i64.wrap (x.2.1+1)),x.2.2)))) else none)))
theorem r62:u4s=s0y:=zC 173 rfl Tryz.func173 (by kernel_rfl)
def u02(x:r5f):Option (Int×r5f):=zK 297 x
def s3a (x:r5f):Option (Int×r5f):=((t6s (x.1,x.2.1)).bind fun y1=>(((bif x.2.2 then(some true) else(some (!y1.2.2))):Option Bool).bind fun j2=>(bif j2 then(some (0,(x.1,(x.2.1,true)))) else(some (y1.1,(x.1,(y1.2.1,x.2.2)))))))
theorem r8c:u02=s3a:=zC 297 rfl Tryz.func297 (by kernel_rfl)
def t78(x:Z45):Option Z45:=zK 299 x
def t71 (x:Z45):Option Z45:=((u1x x.1).bind fun y1=>((u1x y1.2).bind fun y2=>((u4s y2.2).bind fun y3=>((u02 y3.2).bind fun y4=>(bif (Nat.ble (x.2.1.length+([(y1.1,(y2.1,(y3.1,y4.1)))] :List u0d.den).length) z7w) then(some (y4.2,((x.2.1++([(y1.1,(y2.1,(y3.1,y4.1)))] :List u0d.den)),x.2.2))) else none)))))
theorem r2m:t78=t71:=zC 299 rfl Tryz.func299 (by kernel_rfl)
def u2i(x:Z41):Option Z41:=zK 10015 x
def u1k(g:Z33→Option (Z41⊕Unit))(x:Z33):Option (Z41⊕Unit):=(((bif (decide (x.2.2.2<x.2.2.1)) then(some (!x.1.2.2)) else(some false)):Option Bool).bind fun j2=>(bif j2 then((t78 (x.1,x.2.1.2)).bind fun y3=>(g (y3.1,(((),y3.2),(x.2.2.1,(IntKind.i64.wrap (x.2.2.2+1))))))) else(some (.inl (x.1,((),x.2.1.2))))))
def u0s:=lpW _ _ u1k
theorem u4k x:u0s x=u1k u0s x:=zW u4e 10015 Tryz.f298 2 22 x (by kernel_rfl)
def u41 (x:Z41):Option Z41:=((u02 x.1).bind fun y1=>((u0s (y1.2,(((),x.2.2),(y1.1,0)))).bind fun r4=>match r4 with | .inl o5=>(some (o5.1,((),o5.2.2))) | .inr z6=>none))
theorem t11:u2i=u41:=zC 10015 rfl Tryz.func298 (by kernel_rfl)
def t9t(x:Z67):Option Z67:=zK 302 x
def t81 (x:Z67):Option Z67:=((u1x x.2).bind fun y1=>((u1x y1.2).bind fun y2=>(bif (Nat.ble (x.1.2.2.2.2.1.length+([(y1.1,y2.1)] :List r4y.den).length) z7w) then(some ((x.1.1,(x.1.2.1,(x.1.2.2.1,(x.1.2.2.2.1,((x.1.2.2.2.2.1++([(y1.1,y2.1)] :List r4y.den)),x.1.2.2.2.2.2))))),y2.2)) else none)))
theorem r41:t9t=t81:=zC 302 rfl Tryz.func302 (by kernel_rfl)
def u2q(x:Z57):Option Z57:=zK 10017 x
def u1r(g:Z42→Option (Z57⊕Unit))(x:Z42):Option (Z57⊕Unit):=(((bif (decide (x.2.2.2<x.2.2.1)) then(some (!x.1.2.2)) else(some false)):Option Bool).bind fun j2=>(bif j2 then((t9t (x.2.1.1,x.1)).bind fun y3=>(g (y3.2,((y3.1,()),(x.2.2.1,(IntKind.i64.wrap (x.2.2.2+1))))))) else(some (.inl (x.1,(x.2.1.1,()))))))
def u0x:=lpW _ _ u1r
theorem u4t x:u0x x=u1r u0x x:=zW u4q 10017 Tryz.f298 2 22 x (by kernel_rfl)
def u5a (x:Z57):Option Z57:=((u02 x.1).bind fun y1=>((u0x (y1.2,((x.2.1,()),(y1.1,0)))).bind fun r4=>match r4 with | .inl o5=>(some (o5.1,(o5.2.1,()))) | .inr z6=>none))
theorem t18:u2q=u5a:=zC 10017 rfl Tryz.func298 (by kernel_rfl)
def t9u(x:Z66):Option Z66:=zK 303 x
def t82 (x:Z66):Option Z66:=((u1x x.1).bind fun y1=>((u1x y1.2).bind fun y2=>((u4s y2.2).bind fun y3=>(bif (Nat.ble (x.2.2.2.2.2.2.1.length+([(y1.1,(y2.1,y3.1))] :List u2v.den).length) z7w) then(some (y3.2,(x.2.1,(x.2.2.1,(x.2.2.2.1,(x.2.2.2.2.1,(x.2.2.2.2.2.1,((x.2.2.2.2.2.2.1++([(y1.1,(y2.1,y3.1))] :List u2v.den)),x.2.2.2.2.2.2.2)))))))) else none))))
theorem r42:t9u=t82:=zC 303 rfl Tryz.func303 (by kernel_rfl)
def u2r(x:Z59):Option Z59:=zK 10018 x
def u1s(g:Z43→Option (Z59⊕Unit))(x:Z43):Option (Z59⊕Unit):=(((bif (decide (x.2.2.2<x.2.2.1)) then(some (!x.1.2.2)) else(some false)):Option Bool).bind fun j2=>(bif j2 then((t9u (x.1,x.2.1.2)).bind fun y3=>(g (y3.1,(((),y3.2),(x.2.2.1,(IntKind.i64.wrap (x.2.2.2+1))))))) else(some (.inl (x.1,((),x.2.1.2))))))
def u0y:=lpW _ _ u1s
theorem u4u x:u0y x=u1s u0y x:=zW u4r 10018 Tryz.f298 2 22 x (by kernel_rfl)
def u5b (x:Z59):Option Z59:=((u02 x.1).bind fun y1=>((u0y (y1.2,(((),x.2.2),(y1.1,0)))).bind fun r4=>match r4 with | .inl o5=>(some (o5.1,((),o5.2.2))) | .inr z6=>none))
theorem t19:u2r=u5b:=zC 10018 rfl Tryz.func298 (by kernel_rfl)
def u62(x:r5f):Option Z67:=zK 175 x
def s3b (x:r5f):Option Z67:=((u02 x).bind fun y1=>((u02 y1.2).bind fun y2=>((u02 y2.2).bind fun y3=>((u02 y3.2).bind fun y4=>((u2q (y4.2,((y1.1,(y2.1,(y3.1,(y4.1,(([] :List r4y.den),(([] :List u2v.den),(false,(⟨#[]⟩:ByteArray)))))))),()))).bind fun y5=>((u2r (y5.1,((),y5.2.1))).bind fun y6=>((u4s y6.1).bind fun y7=>((u1x y7.2).bind fun y8=>(bif y8.2.2.2 then(some ((y6.2.2.1,(y6.2.2.2.1,(y6.2.2.2.2.1,(y6.2.2.2.2.2.1,(y6.2.2.2.2.2.2.1,(y6.2.2.2.2.2.2.2.1,(y7.1,y8.1))))))),(y8.2.1,(y8.2.2.1,true)))) else((u56 (y6.2.2.1,(y6.2.2.2.1,(y6.2.2.2.2.1,(y6.2.2.2.2.2.1,(y6.2.2.2.2.2.2.1,(y6.2.2.2.2.2.2.2.1,(y7.1,y8.1)))))))).bind fun y9=>(some ((y6.2.2.1,(y6.2.2.2.1,(y6.2.2.2.2.1,(y6.2.2.2.2.2.1,(y6.2.2.2.2.2.2.1,(y6.2.2.2.2.2.2.2.1,(y7.1,y8.1))))))),(y8.2.1,(y8.2.2.1,(!y9)))))))))))))))
theorem r8d:u62=s3b:=zC 175 rfl Tryz.func175 (by kernel_rfl)
def t79(x:Z46):Option Z46:=zK 300 x
def t72 (x:Z46):Option Z46:=((u62 x.2).bind fun y1=>(bif (Nat.ble (x.1.2.1.length+([y1.1] :List u0a.den).length) z7w) then(some ((x.1.1,((x.1.2.1++([y1.1] :List u0a.den)),x.1.2.2)),y1.2)) else none))
theorem r2n:t79=t72:=zC 300 rfl Tryz.func300 (by kernel_rfl)
def u2j(x:Z39):Option Z39:=zK 10016 x
def u1l(g:Z34→Option (Z39⊕Unit))(x:Z34):Option (Z39⊕Unit):=(((bif (decide (x.2.2.2<x.2.2.1)) then(some (!x.1.2.2)) else(some false)):Option Bool).bind fun j2=>(bif j2 then((t79 (x.2.1.1,x.1)).bind fun y3=>(g (y3.2,((y3.1,()),(x.2.2.1,(IntKind.i64.wrap (x.2.2.2+1))))))) else(some (.inl (x.1,(x.2.1.1,()))))))
def u0t:=lpW _ _ u1l
theorem u4l x:u0t x=u1l u0t x:=zW u4f 10016 Tryz.f298 2 22 x (by kernel_rfl)
def u42 (x:Z39):Option Z39:=((u02 x.1).bind fun y1=>((u0t (y1.2,((x.2.1,()),(y1.1,0)))).bind fun r4=>match r4 with | .inl o5=>(some (o5.1,(o5.2.1,()))) | .inr z6=>none))
theorem t12:u2j=u42:=zC 10016 rfl Tryz.func298 (by kernel_rfl)
def t8a(x:Z46):Option Z46:=zK 301 x
def t73 (x:Z46):Option Z46:=((u62 x.2).bind fun y1=>(bif (Nat.ble (x.1.2.2.1.length+([y1.1] :List u0a.den).length) z7w) then(some ((x.1.1,(x.1.2.1,((x.1.2.2.1++([y1.1] :List u0a.den)),x.1.2.2.2))),y1.2)) else none))
theorem r2o:t8a=t73:=zC 301 rfl Tryz.func301 (by kernel_rfl)
def u2k(x:Z39):Option Z39:=zK 10019 x
def u1m(g:Z34→Option (Z39⊕Unit))(x:Z34):Option (Z39⊕Unit):=(((bif (decide (x.2.2.2<x.2.2.1)) then(some (!x.1.2.2)) else(some false)):Option Bool).bind fun j2=>(bif j2 then((t8a (x.2.1.1,x.1)).bind fun y3=>(g (y3.2,((y3.1,()),(x.2.2.1,(IntKind.i64.wrap (x.2.2.2+1))))))) else(some (.inl (x.1,(x.2.1.1,()))))))
def u0u:=lpW _ _ u1m
theorem u4m x:u0u x=u1m u0u x:=zW u4g 10019 Tryz.f298 2 22 x (by kernel_rfl)
def u43 (x:Z39):Option Z39:=((u02 x.1).bind fun y1=>((u0u (y1.2,((x.2.1,()),(y1.1,0)))).bind fun r4=>match r4 with | .inl o5=>(some (o5.1,(o5.2.1,()))) | .inr z6=>none))
theorem t13:u2k=u43:=zC 10019 rfl Tryz.func298 (by kernel_rfl)
def t5d(x:r5f):Option Z46:=zK 174 x
def s0x (x:r5f):Option Z46:=((u02 x).bind fun y1=>((u02 y1.2).bind fun y2=>((u2i (y2.2,((),(([] :List u0d.den),(([] :List u0a.den),(([] :List u0a.den),(y1.1,y2.1))))))).bind fun y3=>((u2j (y3.1,(y3.2.2,()))).bind fun y4=>((u2k (y4.1,(y4.2.1,()))).bind fun y5=>(bif y5.1.2.2 then(some (y5.2.1,(y5.1.1,(y5.1.2.1,true)))) else((u2e y5.2.1).bind fun y6=>(some (y5.2.1,(y5.1.1,(y5.1.2.1,(!y6))))))))))))
theorem r61:t5d=s0x:=zC 174 rfl Tryz.func174 (by kernel_rfl)
def t5v(x:ByteArray):Option Z22:=zK 58 x
def s24 (x:ByteArray):Option Z22:=((t9q x).bind fun y1=>(((bif (!y1.2) then(some true) else(some (z7o y1.1 (⟨#[]⟩:ByteArray)))):Option Bool).bind fun j2=>(bif j2 then(some ((0,((0,(0,(0,(0,(([] :List r4y.den),(([] :List u2v.den),(false,(⟨#[]⟩:ByteArray)))))))),((⟨#[]⟩:ByteArray),(false,(([] :List u0d.den),(([] :List u0a.den),(([] :List u0a.den),(0,0)))))))),false)) else(bif (y4q (0:Int) y1.1.size) then(bif (decide ((IntKind.i64.wrap ((y1.1.data.toList.getD ((0:Int)).toNat 0).toNat:Int))=3)) then((u1x (y1.1,(1,false))).bind fun y3=>((u4s y3.2).bind fun y4=>((u60 ((IntKind.i64.wrap ((y1.1.data.toList.getD ((0:Int)).toNat 0).toNat:Int)),((0,(0,(0,(0,(([] :List r4y.den),(([] :List u2v.den),(false,(⟨#[]⟩:ByteArray)))))))),(y3.1,(y4.1,(([] :List u0d.den),(([] :List u0a.den),(([] :List u0a.den),(0,0))))))))).bind fun y5=>(((bif y4.2.2.2 then(some true) else(bif (!y5.2) then(some true) else(some (!z7o y5.1 x)))):Option Bool).bind fun j6=>(bif j6 then(some ((0,((0,(0,(0,(0,(([] :List r4y.den),(([] :List u2v.den),(false,(⟨#[]⟩:ByteArray)))))))),((⟨#[]⟩:ByteArray),(false,(([] :List u0d.den),(([] :List u0a.den),(([] :List u0a.den),(0,0)))))))),false)) else(some (((IntKind.i64.wrap ((y1.1.data.toList.getD ((0:Int)).toNat 0).toNat:Int)),((0,(0,(0,(0,(([] :List r4y.den),(([] :List u2v.den),(false,(⟨#[]⟩:ByteArray)))))))),(y3.1,(y4.1,(([] :List u0d.den),(([] :List u0a.den),(([] :List u0a.den),(0,0)))))))),true))))))) else(bif (decide ((IntKind.i64.wrap ((y1.1.data.toList.getD ((0:Int)).toNat 0).toNat:Int))=4)) then((t5d (y1.1,(1,false))).bind fun y7=>((u60 ((IntKind.i64.wrap ((y1.1.data.toList.getD ((0:Int)).toNat 0).toNat:Int)),((0,(0,(0,(0,(([] :List r4y.den),(([] :List u2v.den),(false,(⟨#[]⟩:ByteArray)))))))),((⟨#[]⟩:ByteArray),(false,y7.1))))).bind fun y8=>(((bif y7.2.2.2 then(some true) else(bif (!y8.2) then(some true) else(some (!z7o y8.1 x)))):Option Bool).bind fun j9=>(bif j9 then(some ((0,((0,(0,(0,(0,(([] :List r4y.den),(([] :List u2v.den),(false,(⟨#[]⟩:ByteArray)))))))),((⟨#[]⟩:ByteArray),(false,(([] :List u0d.den),(([] :List u0a.den),(([] :List u0a.den),(0,0)))))))),false)) else(some (((IntKind.i64.wrap ((y1.1.data.toList.getD ((0:Int)).toNat 0).toNat:Int)),((0,(0,(0,(0,(([] :List r4y.den),(([] :List u2v.den),(false,(⟨#[]⟩:ByteArray)))))))),((⟨#[]⟩:ByteArray),(false,y7.1)))),true)))))) else((u62 (y1.1,(1,false))).bind fun y10=>((u60 ((IntKind.i64.wrap ((y1.1.data.toList.getD ((0:Int)).toNat 0).toNat:Int)),(y10.1,((⟨#[]⟩:ByteArray),(false,(([] :List u0d.den),(([] :List u0a.den),(([] :List u0a.den),(0,0))))))))).bind fun y11=>(((bif y10.2.2.2 then(some true) else(bif (!y11.2) then(some true) else(some (!z7o y11.1 x)))):Option Bool).bind fun j12=>(bif j12 then(some ((0,((0,(0,(0,(0,(([] :List r4y.den),(([] :List u2v.den),(false,(⟨#[]⟩:ByteArray)))))))),((⟨#[]⟩:ByteArray),(false,(([] :List u0d.den),(([] :List u0a.den),(([] :List u0a.den),(0,0)))))))),false)) else(some (((IntKind.i64.wrap ((y1.1.data.toList.getD ((0:Int)).toNat 0).toNat:Int)),(y10.1,((⟨#[]⟩:ByteArray),(false,(([] :List u0d.den),(([] :List u0a.den),(([] :List u0a.den),(0,0)))))))),true)))))))) else none))))
theorem r76:t5v=s24:=zC 58 rfl Tryz.func58 (by kernel_rfl)
def t3p(x:Z78):Option Bool:=zK 149 x
def s6j (x:Z78):Option Bool:=(some (z7o x.1.2.2.2.2.2.2.2 x.2))
theorem q0w:t3p=s6j:=zC 149 rfl Tryz.func149 (by kernel_rfl)
def u3z(x:o1s):Option Int:=zK 10012 x
def u26(g:o1r→Option p2g)(x:o1r):Option p2g:=(bif (decide (x.2.2.2<x.2.2.1)) then(bif (y4q x.2.2.2 x.1.length) then((t3p ((rdL u0a x.1 (x.2.2.2).toNat),x.2.1)).bind fun y1=>(bif y1 then(some (.inr x.2.2.2)) else(g (x.1,(x.2.1,(x.2.2.1,(IntKind.i64.wrap (x.2.2.2+1)))))))) else none) else(some (.inl ())))
def u06:=lpW _ _ u26
theorem u7d x:u06 x=u26 u06 x:=zW u3b 10012 Tryz.f148 2 19 x (by kernel_rfl)
def u3v (x:o1s):Option Int:=((u06 (x.1,(x.2,((x.1.length:Int),0)))).bind fun r2=>match r2 with | .inl o3=>(some (-1:Int)) | .inr z4=>(some z4))
theorem u8x:u3z=u3v:=zC 10012 rfl Tryz.func148 (by kernel_rfl)
def t6t(x:Z62):Option Int:=zK 42 x
def r24 (x:Z62):Option Int:=((u3z (x.1.2.2.1,x.2)).bind fun y1=>(some y1))
theorem q5d:t6t=r24:=zC 42 rfl Tryz.func42 (by kernel_rfl)
def t2c(x:Z84):Option Z84:=zK 147 x
def r3e (x:Z84):Option Z84:=(bif (Nat.ble x.2.2.2.2.1.length z7w) then(bif (Nat.ble x.2.2.2.2.2.1.length z7w) then(some x) else none) else none)
theorem q5n:t2c=r3e:=zC 147 rfl Tryz.func147 (by kernel_rfl)
def t49(x:r7w):Option r7w:=zK 271 x
def t0m(g:Z88→Option p98)(x:Z88):Option p98:=(bif (decide (x.2.2.2<x.2.2.1)) then(bif (y4q x.2.2.2 x.2.1.length) then((t2c (rdL u0a x.2.1 (x.2.2.2).toNat)).bind fun y1=>(bif (Nat.ble (x.1.length+([y1] :List u0a.den).length) z7w) then(g ((x.1++([y1] :List u0a.den)),(x.2.1,(x.2.2.1,(IntKind.i64.wrap (x.2.2.2+1)))))) else none)) else none) else(some (.inl x.1)))
def t08:=lpW _ _ t0m
theorem s4z x:t08 x=t0m t08 x:=zW s3y 271 Tryz.f271 3 19 x (by kernel_rfl)
def s9j (x:r7w):Option r7w:=((t08 (([] :List u0a.den),(x,((x.length:Int),0)))).bind fun r2=>match r2 with | .inl o3=>(some o3) | .inr z4=>none)
theorem q2z:t49=s9j:=zC 271 rfl Tryz.func271 (by kernel_rfl)
def u1o(x:Z71):Option Z71:=zK 200 x
def s9i (x:Z71):Option Z71:=(bif (Nat.ble x.1.length z7w) then((t49 x.2.1).bind fun y1=>((t49 x.2.2.1).bind fun y2=>(some (x.1,(y1,(y2,x.2.2.2)))))) else none)
theorem q2y:u1o=s9i:=zC 200 rfl Tryz.func200 (by kernel_rfl)
def t9o(x:Z40):Option Int:=zK 235 x
def t0g(g:o2i→Option p4v)(x:o2i):Option p4v:=(bif (decide (x.2.2.2<x.2.2.1)) then(bif (y4q x.2.2.2 x.2.1.length) then(g ((y8i x.1 (rdL u0a x.2.1 (x.2.2.2).toNat).2.2.1),(x.2.1,(x.2.2.1,(IntKind.i64.wrap (x.2.2.2+1)))))) else none) else(some (.inl x.1)))
def t03:=lpW _ _ t0g
theorem s4t x:t03 x=t0g t03 x:=zW s3s 235 Tryz.f235 3 22 x (by kernel_rfl)
def s9c (x:Z40):Option Int:=((t03 (x.1.2.2.2.1,(x.2,((x.2.length:Int),0)))).bind fun r1=>match r1 with | .inl o2=>(some o2) | .inr z3=>none)
theorem q2r:t9o=s9c:=zC 235 rfl Tryz.func235 (by kernel_rfl)
def t8l(x:p9x):Option Int:=zK 363 x
def t4k(g:Z90→Option p4v)(x:Z90):Option p4v:=(bif (decide (x.2.2.2.2.2.2<x.2.2.2.2.2.1)) then(bif (y4q x.2.2.2.2.2.2 x.2.2.2.2.1.length) then(((bif (z7o (rdL u0d x.2.2.2.2.1 (x.2.2.2.2.2.2).toNat).1 x.2.1) then(bif (decide ((rdL u0d x.2.2.2.2.1 (x.2.2.2.2.2.2).toNat).2.2.2≤x.2.2.1)) then(bif (decide (x.2.2.2.1<0)) then(some true) else(bif (y4q x.2.2.2.1 x.1.length) then(some (decide ((rdL u0d x.2.2.2.2.1 (x.2.2.2.2.2.2).toNat).2.2.2 >(rdL u0d x.1 (x.2.2.2.1).toNat).2.2.2))) else none)) else(some false)) else(some false)):Option Bool).bind fun j1=>(bif j1 then(g (x.1,(x.2.1,(x.2.2.1,(x.2.2.2.2.2.2,(x.2.2.2.2.1,(x.2.2.2.2.2.1,(IntKind.i64.wrap (x.2.2.2.2.2.2+1))))))))) else(g (x.1,(x.2.1,(x.2.2.1,(x.2.2.2.1,(x.2.2.2.2.1,(x.2.2.2.2.2.1,(IntKind.i64.wrap (x.2.2.2.2.2.2+1))))))))))) else none) else(some (.inl x.2.2.2.1)))
def u9y:=lpW _ _ t4k
theorem r1v x:u9y x=t4k u9y x:=zW r0s 363 Tryz.f363 3 44 x (by kernel_rfl)
def r5x (x:p9x):Option Int:=((u9y (x.1,(x.2.1,(x.2.2,((-1:Int),(x.1,((x.1.length:Int),0))))))).bind fun r2=>match r2 with | .inl o3=>(some o3) | .inr z4=>none)
theorem q8u:t8l=r5x:=zC 363 rfl Tryz.func363 (by kernel_rfl)
def t7s(x:(ByteArray×s6c)):Option Int:=zK 364 x
def u9c(g:o5q→Option p4v)(x:o5q):Option p4v:=(bif (decide (x.2.2.2.2<x.2.2.2.1)) then(bif (y4q x.2.2.2.2 x.2.2.1.length) then(bif (z7o (rdL u0d x.2.2.1 (x.2.2.2.2).toNat).1 x.1) then(g (x.1,((IntKind.i64.wrap (x.2.1+1)),(x.2.2.1,(x.2.2.2.1,(IntKind.i64.wrap (x.2.2.2.2+1))))))) else(g (x.1,(x.2.1,(x.2.2.1,(x.2.2.2.1,(IntKind.i64.wrap (x.2.2.2.2+1)))))))) else none) else(some (.inl x.2.1)))
def u52:=lpW _ _ u9c
theorem s10 x:u52 x=u9c u52 x:=zW s07 364 Tryz.f364 3 21 x (by kernel_rfl)
def s6l (x:(ByteArray×s6c)):Option Int:=((u52 (x.1,(0,(x.2,((x.2.length:Int),0))))).bind fun r1=>match r1 with | .inl o2=>(some o2) | .inr z3=>none)
theorem q0z:t7s=s6l:=zC 364 rfl Tryz.func364 (by kernel_rfl)
def s2g(x:o0d):Option s6c:=zK 238 x
def t2s(g:Z87→Option o39)(x:Z87):Option o39:=(bif (decide (x.2.2.2.2.2<x.2.2.2.2.1)) then(bif (y4q x.2.2.2.2.2 x.2.2.2.1.length) then(((bif (decide ((rdL u0d x.2.2.2.1 (x.2.2.2.2.2).toNat).2.2.2 >x.2.1)) then(some true) else((t8l (x.1,((rdL u0d x.2.2.2.1 (x.2.2.2.2.2).toNat).1,x.2.1))).bind fun y1=>(some (decide (y1=x.2.2.2.2.2))))):Option Bool).bind fun j2=>(bif j2 then(bif (Nat.ble (x.2.2.1.length+([(rdL u0d x.2.2.2.1 (x.2.2.2.2.2).toNat)] :List u0d.den).length) z7w) then(g (x.1,(x.2.1,((x.2.2.1++([(rdL u0d x.2.2.2.1 (x.2.2.2.2.2).toNat)] :List u0d.den)),(x.2.2.2.1,(x.2.2.2.2.1,(IntKind.i64.wrap (x.2.2.2.2.2+1)))))))) else none) else(g (x.1,(x.2.1,(x.2.2.1,(x.2.2.2.1,(x.2.2.2.2.1,(IntKind.i64.wrap (x.2.2.2.2.2+1)))))))))) else none) else(some (.inl (x.2.1,x.2.2.1))))
def u8i:=lpW _ _ t2s
theorem s73 x:u8i x=t2s u8i x:=zW s69 238 Tryz.f238 3 66 x (by kernel_rfl)
def t0j(g:Z85→Option p58)(x:Z85):Option p58:=(bif (decide (x.2.2.2.2.2<x.2.2.2.2.1)) then(bif (y4q x.2.2.2.2.2 x.2.2.2.1.length) then(bif (decide ((rdL u0d x.2.2.2.1 (x.2.2.2.2.2).toNat).2.2.2 >x.1)) then(bif (Nat.ble (x.2.2.1.length+([(rdL u0d x.2.2.2.1 (x.2.2.2.2.2).toNat)] :List u0d.den).length) z7w) then(g (x.1,(x.2.1,((x.2.2.1++([(rdL u0d x.2.2.2.1 (x.2.2.2.2.2).toNat)] :List u0d.den)),(x.2.2.2.1,(x.2.2.2.2.1,(IntKind.i64.wrap (x.2.2.2.2.2+1)))))))) else none) else(bif (!(rdL u0d x.2.2.2.1 (x.2.2.2.2.2).toNat).2.2.1) then(bif (Nat.ble (x.2.2.1.length+([(rdL u0d x.2.2.2.1 (x.2.2.2.2.2).toNat)] :List u0d.den).length) z7w) then(g (x.1,(x.2.1,((x.2.2.1++([(rdL u0d x.2.2.2.1 (x.2.2.2.2.2).toNat)] :List u0d.den)),(x.2.2.2.1,(x.2.2.2.2.1,(IntKind.i64.wrap (x.2.2.2.2.2+1)))))))) else none) else((t7s ((rdL u0d x.2.2.2.1 (x.2.2.2.2.2).toNat).1,x.2.1)).bind fun y5=>(bif (decide (y5 >1)) then(bif (Nat.ble (x.2.2.1.length+([(rdL u0d x.2.2.2.1 (x.2.2.2.2.2).toNat)] :List u0d.den).length) z7w) then(g (x.1,(x.2.1,((x.2.2.1++([(rdL u0d x.2.2.2.1 (x.2.2.2.2.2).toNat)] :List u0d.den)),(x.2.2.2.1,(x.2.2.2.2.1,(IntKind.i64.wrap (x.2.2.2.2.2+1)))))))) else none) else(g (x.1,(x.2.1,(x.2.2.1,(x.2.2.2.1,(x.2.2.2.2.1,(IntKind.i64.wrap (x.2.2.2.2.2+1)))))))))))) else none) else(some (.inl x.2.2.1)))
def t06:=lpW _ _ t0j
theorem s4w x:t06 x=t0j t06 x:=zW s3v 238 Tryz.f238 11 66 x (by kernel_rfl)
def r29 (x:o0d):Option s6c:=((u8i (x.1,(x.2,(([] :List u0d.den),(x.1,((x.1.length:Int),0)))))).bind fun r3=>match r3 with | .inl o4=>((t06 (o4.1,(o4.2,(([] :List u0d.den),(o4.2,((o4.2.length:Int),0)))))).bind fun r6=>match r6 with | .inl o7=>(some o7) | .inr z8=>none) | .inr z9=>none)
theorem q5i:s2g=r29:=zC 238 rfl Tryz.func238 (by kernel_rfl)
def u61(x:Z80):Option Bool:=zK 237 x
def q2a (x:Z80):Option Bool:=(some (decide (x.1.2.2.2.1≤x.2)))
theorem q2v:u61=q2a:=zC 237 rfl Tryz.func237 (by kernel_rfl)
def u37(x:p73):Option Int:=zK 10002 x
def u3h(g:o3m→Option p2g)(x:o3m):Option p2g:=(bif (decide (x.2.2.2<x.2.2.1)) then(bif (y4q x.2.2.2 x.1.length) then((u61 ((rdL u0a x.1 (x.2.2.2).toNat),x.2.1)).bind fun y1=>(bif y1 then(some (.inr x.2.2.2)) else(g (x.1,(x.2.1,(x.2.2.1,(IntKind.i64.wrap (x.2.2.2+1)))))))) else none) else(some (.inl ())))
def u1c:=lpW _ _ u3h
theorem u8b x:u1c x=u3h u1c x:=zW u3m 10002 Tryz.f148 2 19 x (by kernel_rfl)
def u36 (x:p73):Option Int:=((u1c (x.1,(x.2,((x.1.length:Int),0)))).bind fun r2=>match r2 with | .inl o3=>(some (-1:Int)) | .inr z4=>(some z4))
theorem u87:u37=u36:=zC 10002 rfl Tryz.func148 (by kernel_rfl)
def u12(x:p73):Option r7w:=zK 10001 x
def u24(g:o3m→Option o1w)(x:o3m):Option o1w:=(bif (decide (x.2.2.2<(x.1.length:Int))) then(bif (y4q x.2.2.2 x.1.length) then((u61 ((rdL u0a x.1 (x.2.2.2).toNat),x.2.1)).bind fun y2=>(bif (!y2) then(bif (y4q x.2.2.1 x.1.length) then(g ((x.1.set (x.2.2.1).toNat (rdL u0a x.1 (x.2.2.2).toNat)),(x.2.1,((IntKind.i64.wrap (x.2.2.1+1)),(IntKind.i64.wrap (x.2.2.2+1)))))) else none) else(g (x.1,(x.2.1,(x.2.2.1,(IntKind.i64.wrap (x.2.2.2+1)))))))) else none) else(some (.inl (x.1,x.2.2.1))))
def u04:=lpW _ _ u24
theorem u7b x:u04 x=u24 u04 x:=zW u29 10001 Tryz.f236 5 42 x (by kernel_rfl)
def u3t (x:p73):Option r7w:=((u37 x).bind fun y1=>(bif (decide (y1=(-1:Int))) then(some x.1) else((u04 (x.1,(x.2,(y1,(IntKind.i64.wrap (y1+1)))))).bind fun r3=>match r3 with | .inl o4=>(bif (decide (0≤o4.2)&&decide (o4.2≤(o4.1.length:Int))&&decide ((o4.1.length:Int)≤(o4.1.length:Int))) then(bif (decide (0≤(0:Int))&&decide ((0:Int)≤o4.2)&&decide (o4.2≤((o4.1.take (o4.2).toNat++List.replicate (((o4.1.length:Int)).toNat - (o4.2).toNat) (u0a).zero++o4.1.drop ((o4.2).toNat+(((o4.1.length:Int)).toNat - (o4.2).toNat))).length:Int))) then(some ((o4.1.take (o4.2).toNat++List.replicate (((o4.1.length:Int)).toNat - (o4.2).toNat) (u0a).zero++o4.1.drop ((o4.2).toNat+(((o4.1.length:Int)).toNat - (o4.2).toNat))).take ((o4.2).toNat - ((0:Int)).toNat))) else none) else none) | .inr z5=>none)))
theorem u8v:u12=u3t:=zC 10001 rfl Tryz.func236 (by kernel_rfl)
def u46(x:Z40):Option Z71:=zK 100 x
def r5s (x:Z40):Option Z71:=((u1o x.1).bind fun y1=>((t9o x).bind fun y2=>((u12 (y1.2.1,y2)).bind fun y3=>((s2g (x.1.1,y2)).bind fun y4=>(some (y4,(y3,y1.2.2)))))))
theorem q8r:u46=r5s:=zC 100 rfl Tryz.func100 (by kernel_rfl)
def t6p(x:o3z):Option Bool:=zK 258 x
def r2z (x:o3z):Option Bool:=(((bif (!y3c x.2 x.1.1) then(some (y3c x.2 x.1.2 || z7o x.2 x.1.2)) else(some false)):Option Bool).bind fun j1=>(some j1))
theorem q48:t6p=r2z:=zC 258 rfl Tryz.func258 (by kernel_rfl)
def s2f(x:o30):Option Bool:=zK 252 x
def t2r(g:Z68→Option (o3p⊕Bool))(x:Z68):Option (o3p⊕Bool):=(bif (decide (x.2.2.2.2.2.2.2<x.2.2.2.2.2.2.1)) then(bif (y4q x.2.2.2.2.2.2.2 x.2.2.2.2.2.1.length) then((t6p (x.2.1,(rdL u2v x.2.2.2.2.2.1 (x.2.2.2.2.2.2.2).toNat).1)).bind fun y1=>(bif y1 then(some (.inr true)) else(g (x.1,(x.2.1,(x.2.2.1,(x.2.2.2.1,(x.2.2.2.2.1,(x.2.2.2.2.2.1,(x.2.2.2.2.2.2.1,(IntKind.i64.wrap (x.2.2.2.2.2.2.2+1)))))))))))) else none) else(some (.inl (x.1,(x.2.2.1,(x.2.2.2.1,x.2.2.2.2.1))))))
def u8h:=lpW _ _ t2r
theorem s72 x:u8h x=t2r u8h x:=zW s68 252 Tryz.f252 5 27 x (by kernel_rfl)
def t2q(g:o3p→Option s8n)(x:o3p):Option s8n:=(bif (decide (x.2.2.2<x.2.2.1)) then(bif (y4q x.2.2.2 x.2.1.length) then((u8h (x.1,((rdL r4y x.2.1 (x.2.2.2).toNat),(x.2.1,(x.2.2.1,(x.2.2.2,(x.1,((x.1.length:Int),0)))))))).bind fun r2=>match r2 with | .inl o3=>(g (o3.1,(o3.2.1,(o3.2.2.1,(IntKind.i64.wrap (o3.2.2.2+1)))))) | .inr z4=>(some (.inr z4))) else none) else(some (.inl ())))
def t3e:=lpW _ _ t2q
theorem s71 x:t3e x=t2q t3e x:=zW s67 252 Tryz.f252 2 27 x (by kernel_rfl)
def r28 (x:o30):Option Bool:=((t3e (x.2,(x.1,((x.1.length:Int),0)))).bind fun r5=>match r5 with | .inl o6=>(some false) | .inr z7=>(some z7))
theorem q5h:s2f=r28:=zC 252 rfl Tryz.func252 (by kernel_rfl)
def t9k(x:Z32):Option Bool:=zK 442 x
def s88 (x:Z32):Option Bool:=(((bif (decide (x.1.2.1=3)) then(some (decide (x.1.2.2.2.1≤x.2.2.2.1))) else(some false)):Option Bool).bind fun j1=>(some j1))
theorem q2n:t9k=s88:=zC 442 rfl Tryz.func442 (by kernel_rfl)
def s5r(x:Z32):Option Bool:=zK 384 x
def r5m (x:Z32):Option Bool:=(bif (!decide (x.1.1=x.2.1)) then((t9k x).bind fun y1=>(bif (!y1) then((t9k (x.2,x.1)).bind fun y2=>(some (!y2))) else(some false))) else(some false))
theorem q8l:s5r=r5m:=zC 384 rfl Tryz.func384 (by kernel_rfl)
def s1j(x:Z32):Option Bool:=zK 273 x
def r9i (x:Z32):Option Bool:=((((s5r x).bind fun y1=>(bif y1 then((s2f (x.1.2.2.2.2.1,x.2.2.2.2.2.2.1)).bind fun y2=>(some y2)) else(some false))):Option Bool).bind fun j3=>(some j3))
theorem p0v:s1j=r9i:=zC 273 rfl Tryz.func273 (by kernel_rfl)
def t6q(x:Z32):Option Bool:=zK 386 x
def r20 (x:Z32):Option Bool:=((((t5c x.1).bind fun y1=>(bif y1 then((s1j (x.2,x.1)).bind fun y2=>(some y2)) else(some false))):Option Bool).bind fun j3=>(some j3))
theorem q49:t6q=r20:=zC 386 rfl Tryz.func386 (by kernel_rfl)
def u4a(x:Z58):Option Int:=zK 10009 x
def u3s(g:Z44→Option p2g)(x:Z44):Option p2g:=(bif (decide (x.2.2.2<x.2.2.1)) then(bif (y4q x.2.2.2 x.1.length) then((t6q ((rdL u0a x.1 (x.2.2.2).toNat),x.2.1)).bind fun y1=>(bif y1 then(some (.inr x.2.2.2)) else(g (x.1,(x.2.1,(x.2.2.1,(IntKind.i64.wrap (x.2.2.2+1)))))))) else none) else(some (.inl ())))
def u1h:=lpW _ _ u3s
theorem u82 x:u1h x=u3s u1h x:=zW u3x 10009 Tryz.f148 2 19 x (by kernel_rfl)
def u39 (x:Z58):Option Int:=((u1h (x.1,(x.2,((x.1.length:Int),0)))).bind fun r2=>match r2 with | .inl o3=>(some (-1:Int)) | .inr z4=>(some z4))
theorem u9w:u4a=u39:=zC 10009 rfl Tryz.func148 (by kernel_rfl)
def u3n(x:Z58):Option Bool:=zK 10008 x
def u3i (x:Z58):Option Bool:=((u4a x).bind fun y1=>(some (decide (y1≥0))))
theorem u71:u3n=u3i:=zC 10008 rfl Tryz.func261 (by kernel_rfl)
def t4a(x:Z58):Option Bool:=zK 10007 x
def t35 (x:Z58):Option Bool:=((u3n x).bind fun y1=>(some y1))
theorem s3l:t4a=t35:=zC 10007 rfl Tryz.func127 (by kernel_rfl)
def s1k(x:Z55):Option Bool:=zK 278 x
def r9l (x:Z55):Option Bool:=((t4a (x.2,x.1)).bind fun y1=>(some y1))
theorem p0y:s1k=r9l:=zC 278 rfl Tryz.func278 (by kernel_rfl)
def t7r(x:Z26):Option Z71:=zK 146 x
def u9b(g:Z4→Option (Z5⊕Unit))(x:Z4):Option (Z5⊕Unit):=(bif (decide (x.2.2.2.2.2.2.2.2.2<x.2.2.2.2.2.2.2.2.1)) then(bif (y4q x.2.2.2.2.2.2.2.2.2 x.2.2.2.1.2.2.1.length) then(bif (y3c (rdL u0a x.2.2.2.1.2.2.1 (x.2.2.2.2.2.2.2.2.2).toNat).2.2.2.2.2.2.2 x.1) then(bif (Nat.ble (x.2.2.2.2.2.1.length+([(rdL u0a x.2.2.2.1.2.2.1 (x.2.2.2.2.2.2.2.2.2).toNat)] :List u0a.den).length) z7w) then(g (x.1,(x.2.1,(x.2.2.1,(x.2.2.2.1,(x.2.2.2.2.1,((x.2.2.2.2.2.1++([(rdL u0a x.2.2.2.1.2.2.1 (x.2.2.2.2.2.2.2.2.2).toNat)] :List u0a.den)),(x.2.2.2.2.2.2.1,((),(x.2.2.2.2.2.2.2.2.1,(IntKind.i64.wrap (x.2.2.2.2.2.2.2.2.2+1)))))))))))) else none) else(bif (Nat.ble (x.2.2.2.2.2.2.1.length+([(rdL u0a x.2.2.2.1.2.2.1 (x.2.2.2.2.2.2.2.2.2).toNat)] :List u0a.den).length) z7w) then(g (x.1,(x.2.1,(x.2.2.1,(x.2.2.2.1,(x.2.2.2.2.1,(x.2.2.2.2.2.1,((x.2.2.2.2.2.2.1++([(rdL u0a x.2.2.2.1.2.2.1 (x.2.2.2.2.2.2.2.2.2).toNat)] :List u0a.den)),((),(x.2.2.2.2.2.2.2.2.1,(IntKind.i64.wrap (x.2.2.2.2.2.2.2.2.2+1)))))))))))) else none)) else none) else(some (.inl (x.2.1,(x.2.2.1,(x.2.2.2.1,(x.2.2.2.2.1,(x.2.2.2.2.2.1,x.2.2.2.2.2.2.1))))))))
def u4n:=lpW _ _ u9b
theorem s1z x:u4n x=u9b u4n x:=zW s06 146 Tryz.f146 6 64 x (by kernel_rfl)
def s6h (x:Z26):Option Z71:=((u1o x.1).bind fun y1=>((t2c x.2.1).bind fun y2=>(bif x.2.1.2.2.2.2.2.2.1 then((u4n (x.2.2,(x.2.1,((([] :List u0d.den),(([] :List u0a.den),(([] :List u0a.den),(0,0)))),(y1,((y2.1,(2,(y2.2.2.1,(y2.2.2.2.1,(y2.2.2.2.2.1,(y2.2.2.2.2.2.1,(true,x.2.2))))))),(([] :List u0a.den),(([] :List u0a.den),((),((y1.2.2.1.length:Int),0)))))))))).bind fun r3=>match r3 with | .inl o4=>(bif (Nat.ble (o4.2.2.2.2.1.length+([o4.2.2.2.1] :List u0a.den).length) z7w) then(bif (Nat.ble ((o4.2.2.2.2.1++([o4.2.2.2.1] :List u0a.den)).length+o4.2.2.2.2.2.length) z7w) then(some (o4.2.2.1.1,(o4.2.2.1.2.1,(((o4.2.2.2.2.1++([o4.2.2.2.1] :List u0a.den))++o4.2.2.2.2.2),(o4.2.2.1.2.2.2.1,(y8h o4.2.2.1.2.2.2.2 (IntKind.i64.wrap (o4.1.1+1)))))))) else none) else none) | .inr z5=>none) else((s1k (x.2.1,x.1.2.1)).bind fun y6=>((u4n (x.2.2,(x.2.1,((([] :List u0d.den),(([] :List u0a.den),(([] :List u0a.den),(0,0)))),(y1,((y2.1,(2,(y2.2.2.1,(y2.2.2.2.1,(y2.2.2.2.2.1,(y2.2.2.2.2.2.1,(y6,x.2.2))))))),(([] :List u0a.den),(([] :List u0a.den),((),((y1.2.2.1.length:Int),0)))))))))).bind fun r7=>match r7 with | .inl o8=>(bif (Nat.ble (o8.2.2.2.2.1.length+([o8.2.2.2.1] :List u0a.den).length) z7w) then(bif (Nat.ble ((o8.2.2.2.2.1++([o8.2.2.2.1] :List u0a.den)).length+o8.2.2.2.2.2.length) z7w) then(some (o8.2.2.1.1,(o8.2.2.1.2.1,(((o8.2.2.2.2.1++([o8.2.2.2.1] :List u0a.den))++o8.2.2.2.2.2),(o8.2.2.1.2.2.2.1,(y8h o8.2.2.1.2.2.2.2 (IntKind.i64.wrap (o8.1.1+1)))))))) else none) else none) | .inr z9=>none)))))
theorem q0u:t7r=s6h:=zC 146 rfl Tryz.func146 (by kernel_rfl)
def u23(x:o5y):Option s6c:=zK 257 x
theorem t8i:∀(x:o5y),u23 x=y2q u0d x:=y6f (P:=Tryz.prog) (A:=A) (f:=257) (F:=y2q u0d) rfl
def t15(x:Z92):Option Bool:=zK 255 x
def t70 (x:Z92):Option Bool:=((u4h x).bind fun y1=>(some (decide (y1 >0))))
theorem r2l:t15=t70:=zC 255 rfl Tryz.func255 (by kernel_rfl)
def u1j(x:o5m):Option Int:=zK 10006 x
def u0p(g:Z96→Option p2g)(x:Z96):Option p2g:=(bif (decide (x.2.2.2<x.2.2.1)) then(bif (y4q x.2.2.2 x.1.length) then((t15 ((rdL u0d x.1 (x.2.2.2).toNat),x.2.1)).bind fun y1=>(bif y1 then(some (.inr x.2.2.2)) else(g (x.1,(x.2.1,(x.2.2.1,(IntKind.i64.wrap (x.2.2.2+1)))))))) else none) else(some (.inl ())))
def u0q:=lpW _ _ u0p
theorem u17 x:u0q x=u0p u0q x:=zW u15 10006 Tryz.f254 2 19 x (by kernel_rfl)
def u2b (x:o5m):Option Int:=((u0q (x.1,(x.2,((x.1.length:Int),0)))).bind fun r2=>match r2 with | .inl o3=>(some (-1:Int)) | .inr z4=>(some z4))
theorem u5l:u1j=u2b:=zC 10006 rfl Tryz.func254 (by kernel_rfl)
def u9s(x:o3s):Option s6c:=zK 120 x
def u6f(g:o5l→Option p58)(x:o5l):Option p58:=(bif (decide (x.2.2.2.2<x.2.2.2.1)) then(bif (y4q x.2.2.2.2 x.2.2.1.length) then((u1j (x.2.1,((rdL u2v x.2.2.1 (x.2.2.2.2).toNat).1,((rdL u2v x.2.2.1 (x.2.2.2.2).toNat).2.1,((rdL u2v x.2.2.1 (x.2.2.2.2).toNat).2.2,x.1))))).bind fun y1=>(bif (decide (y1<0)) then((u23 (x.2.1,((x.2.1.length:Int),([((rdL u2v x.2.2.1 (x.2.2.2.2).toNat).1,((rdL u2v x.2.2.1 (x.2.2.2.2).toNat).2.1,((rdL u2v x.2.2.1 (x.2.2.2.2).toNat).2.2,x.1)))] :List u0d.den)))).bind fun y2=>(g (x.1,(y2,(x.2.2.1,(x.2.2.2.1,(IntKind.i64.wrap (x.2.2.2.2+1)))))))) else((u23 (x.2.1,(y1,([((rdL u2v x.2.2.1 (x.2.2.2.2).toNat).1,((rdL u2v x.2.2.1 (x.2.2.2.2).toNat).2.1,((rdL u2v x.2.2.1 (x.2.2.2.2).toNat).2.2,x.1)))] :List u0d.den)))).bind fun y3=>(g (x.1,(y3,(x.2.2.1,(x.2.2.2.1,(IntKind.i64.wrap (x.2.2.2.2+1)))))))))) else none) else(some (.inl x.2.1)))
def u6i:=lpW _ _ u6f
theorem t8b x:u6i x=u6f u6i x:=zW t74 120 Tryz.f120 3 42 x (by kernel_rfl)
def s0w (x:o3s):Option s6c:=(bif (Nat.ble x.1.length z7w) then((u6i (x.2.2,(x.1,(x.2.1,((x.2.1.length:Int),0))))).bind fun r4=>match r4 with | .inl o5=>(some o5) | .inr z6=>none) else none)
theorem r6y:u9s=s0w:=zC 120 rfl Tryz.func120 (by kernel_rfl)
def u5w(x:Z32):Option Bool:=zK 279 x
def q0p (x:Z32):Option Bool:=(some (decide (x.1.1=x.2.1)))
theorem q0y:u5w=q0p:=zC 279 rfl Tryz.func279 (by kernel_rfl)
def u30(x:Z58):Option Int:=zK 10011 x
def u27(g:Z44→Option p2g)(x:Z44):Option p2g:=(bif (decide (x.2.2.2<x.2.2.1)) then(bif (y4q x.2.2.2 x.1.length) then((u5w ((rdL u0a x.1 (x.2.2.2).toNat),x.2.1)).bind fun y1=>(bif y1 then(some (.inr x.2.2.2)) else(g (x.1,(x.2.1,(x.2.2.1,(IntKind.i64.wrap (x.2.2.2+1)))))))) else none) else(some (.inl ())))
def u07:=lpW _ _ u27
theorem u7e x:u07 x=u27 u07 x:=zW u3c 10011 Tryz.f148 2 19 x (by kernel_rfl)
def u3w (x:Z58):Option Int:=((u07 (x.1,(x.2,((x.1.length:Int),0)))).bind fun r2=>match r2 with | .inl o3=>(some (-1:Int)) | .inr z4=>(some z4))
theorem u8y:u30=u3w:=zC 10011 rfl Tryz.func148 (by kernel_rfl)
def u1f(x:Z58):Option r7w:=zK 10010 x
def u2z(g:Z44→Option o1w)(x:Z44):Option o1w:=(bif (decide (x.2.2.2<(x.1.length:Int))) then(bif (y4q x.2.2.2 x.1.length) then((u5w ((rdL u0a x.1 (x.2.2.2).toNat),x.2.1)).bind fun y2=>(bif (!y2) then(bif (y4q x.2.2.1 x.1.length) then(g ((x.1.set (x.2.2.1).toNat (rdL u0a x.1 (x.2.2.2).toNat)),(x.2.1,((IntKind.i64.wrap (x.2.2.1+1)),(IntKind.i64.wrap (x.2.2.2+1)))))) else none) else(g (x.1,(x.2.1,(x.2.2.1,(IntKind.i64.wrap (x.2.2.2+1)))))))) else none) else(some (.inl (x.1,x.2.2.1))))
def u00:=lpW _ _ u2z
theorem u68 x:u00 x=u2z u00 x:=zW u21 10010 Tryz.f236 5 42 x (by kernel_rfl)
def u3k (x:Z58):Option r7w:=((u30 x).bind fun y1=>(bif (decide (y1=(-1:Int))) then(some x.1) else((u00 (x.1,(x.2,(y1,(IntKind.i64.wrap (y1+1)))))).bind fun r3=>match r3 with | .inl o4=>(bif (decide (0≤o4.2)&&decide (o4.2≤(o4.1.length:Int))&&decide ((o4.1.length:Int)≤(o4.1.length:Int))) then(bif (decide (0≤(0:Int))&&decide ((0:Int)≤o4.2)&&decide (o4.2≤((o4.1.take (o4.2).toNat++List.replicate (((o4.1.length:Int)).toNat - (o4.2).toNat) (u0a).zero++o4.1.drop ((o4.2).toNat+(((o4.1.length:Int)).toNat - (o4.2).toNat))).length:Int))) then(some ((o4.1.take (o4.2).toNat++List.replicate (((o4.1.length:Int)).toNat - (o4.2).toNat) (u0a).zero++o4.1.drop ((o4.2).toNat+(((o4.1.length:Int)).toNat - (o4.2).toNat))).take ((o4.2).toNat - ((0:Int)).toNat))) else none) else none) | .inr z5=>none)))
theorem u73:u1f=u3k:=zC 10010 rfl Tryz.func236 (by kernel_rfl)
def t2b(x:Z28):Option Z71:=zK 150 x
def t2p(g:Z7→Option (Z8⊕Unit))(x:Z7):Option (Z8⊕Unit):=(bif (decide (x.2.2.2.2.2.2<x.2.2.2.2.2.1)) then(bif (y4q x.2.2.2.2.2.2 x.2.2.1.2.2.1.length) then(bif (rdL u0a x.2.2.1.2.2.1 (x.2.2.2.2.2.2).toNat).2.2.2.2.2.2.1 then(bif (y4q x.2.2.2.2.2.2 x.2.2.1.2.2.1.length) then(g (x.1,(x.2.1,((x.2.2.1.1,(x.2.2.1.2.1,((x.2.2.1.2.2.1.set (x.2.2.2.2.2.2).toNat ((rdL u0a x.2.2.1.2.2.1 (x.2.2.2.2.2.2).toNat).1,((rdL u0a x.2.2.1.2.2.1 (x.2.2.2.2.2.2).toNat).2.1,((rdL u0a x.2.2.1.2.2.1 (x.2.2.2.2.2.2).toNat).2.2.1,((rdL u0a x.2.2.1.2.2.1 (x.2.2.2.2.2.2).toNat).2.2.2.1,((rdL u0a x.2.2.1.2.2.1 (x.2.2.2.2.2.2).toNat).2.2.2.2.1,((rdL u0a x.2.2.1.2.2.1 (x.2.2.2.2.2.2).toNat).2.2.2.2.2.1,(true,(rdL u0a x.2.2.1.2.2.1 (x.2.2.2.2.2.2).toNat).2.2.2.2.2.2.2)))))))),x.2.2.1.2.2.2))),(x.2.2.2.1,((),(x.2.2.2.2.2.1,(IntKind.i64.wrap (x.2.2.2.2.2.2+1))))))))) else none) else((s1j ((rdL u0a x.2.2.1.2.2.1 (x.2.2.2.2.2.2).toNat),x.2.2.2.1)).bind fun y5=>(bif (y4q x.2.2.2.2.2.2 x.2.2.1.2.2.1.length) then(g (x.1,(x.2.1,((x.2.2.1.1,(x.2.2.1.2.1,((x.2.2.1.2.2.1.set (x.2.2.2.2.2.2).toNat ((rdL u0a x.2.2.1.2.2.1 (x.2.2.2.2.2.2).toNat).1,((rdL u0a x.2.2.1.2.2.1 (x.2.2.2.2.2.2).toNat).2.1,((rdL u0a x.2.2.1.2.2.1 (x.2.2.2.2.2.2).toNat).2.2.1,((rdL u0a x.2.2.1.2.2.1 (x.2.2.2.2.2.2).toNat).2.2.2.1,((rdL u0a x.2.2.1.2.2.1 (x.2.2.2.2.2.2).toNat).2.2.2.2.1,((rdL u0a x.2.2.1.2.2.1 (x.2.2.2.2.2.2).toNat).2.2.2.2.2.1,(y5,(rdL u0a x.2.2.1.2.2.1 (x.2.2.2.2.2.2).toNat).2.2.2.2.2.2.2)))))))),x.2.2.1.2.2.2))),(x.2.2.2.1,((),(x.2.2.2.2.2.1,(IntKind.i64.wrap (x.2.2.2.2.2.2+1))))))))) else none))) else none) else(some (.inl (x.1,(x.2.1,(x.2.2.1,x.2.2.2.1))))))
def u5p:=lpW _ _ t2p
theorem s70 x:u5p x=t2p u5p x:=zW s66 150 Tryz.f150 9 80 x (by kernel_rfl)
def r27 (x:Z28):Option Z71:=((u1o x.1).bind fun y1=>((t2c x.2).bind fun y2=>(bif x.2.2.2.2.2.2.2.1 then((u9s (x.1.1,(x.2.2.2.2.2.2.1,(IntKind.i64.wrap (y1.2.2.2.1+1))))).bind fun y3=>((u1f (y1.2.2.1,x.2)).bind fun y4=>((u5p (x.2,((([] :List u0d.den),(([] :List u0a.den),(([] :List u0a.den),(0,0)))),((y3,(y1.2.1,(y4,((IntKind.i64.wrap (y1.2.2.2.1+1)),y1.2.2.2.2)))),((y2.1,(3,(y2.2.2.1,((IntKind.i64.wrap (x.1.2.2.2.1+1)),(y2.2.2.2.2.1,(y2.2.2.2.2.2.1,(true,(⟨#[]⟩:ByteArray)))))))),((),((y4.length:Int),0))))))).bind fun r6=>match r6 with | .inl o7=>(bif (Nat.ble (o7.2.2.1.2.1.length+([o7.2.2.2] :List u0a.den).length) z7w) then(some (o7.2.2.1.1,((o7.2.2.1.2.1++([o7.2.2.2] :List u0a.den)),(o7.2.2.1.2.2.1,(o7.2.2.1.2.2.2.1,(y8h o7.2.2.1.2.2.2.2 (IntKind.i64.wrap (o7.1.1+1)))))))) else none) | .inr z8=>none))) else((s1k (x.2,x.1.2.1)).bind fun y9=>((u9s (x.1.1,(x.2.2.2.2.2.2.1,(IntKind.i64.wrap (y1.2.2.2.1+1))))).bind fun y10=>((u1f (y1.2.2.1,x.2)).bind fun y11=>((u5p (x.2,((([] :List u0d.den),(([] :List u0a.den),(([] :List u0a.den),(0,0)))),((y10,(y1.2.1,(y11,((IntKind.i64.wrap (y1.2.2.2.1+1)),y1.2.2.2.2)))),((y2.1,(3,(y2.2.2.1,((IntKind.i64.wrap (x.1.2.2.2.1+1)),(y2.2.2.2.2.1,(y2.2.2.2.2.2.1,(y9,(⟨#[]⟩:ByteArray)))))))),((),((y11.length:Int),0))))))).bind fun r13=>match r13 with | .inl o14=>(bif (Nat.ble (o14.2.2.1.2.1.length+([o14.2.2.2] :List u0a.den).length) z7w) then(some (o14.2.2.1.1,((o14.2.2.1.2.1++([o14.2.2.2] :List u0a.den)),(o14.2.2.1.2.2.1,(o14.2.2.1.2.2.2.1,(y8h o14.2.2.1.2.2.2.2 (IntKind.i64.wrap (o14.1.1+1)))))))) else none) | .inr z15=>none)))))))
theorem q5g:t2b=r27:=zC 150 rfl Tryz.func150 (by kernel_rfl)
def u5v(x:Z78):Option Bool:=zK 280 x
def q0o (x:Z78):Option Bool:=(some (z7o x.1.2.2.2.2.2.2.2 x.2))
theorem q0t:u5v=q0o:=zC 280 rfl Tryz.func280 (by kernel_rfl)
def u3y(x:o1s):Option Int:=zK 10014 x
def u25(g:o1r→Option p2g)(x:o1r):Option p2g:=(bif (decide (x.2.2.2<x.2.2.1)) then(bif (y4q x.2.2.2 x.1.length) then((u5v ((rdL u0a x.1 (x.2.2.2).toNat),x.2.1)).bind fun y1=>(bif y1 then(some (.inr x.2.2.2)) else(g (x.1,(x.2.1,(x.2.2.1,(IntKind.i64.wrap (x.2.2.2+1)))))))) else none) else(some (.inl ())))
def u05:=lpW _ _ u25
theorem u7c x:u05 x=u25 u05 x:=zW u3a 10014 Tryz.f148 2 19 x (by kernel_rfl)
def u3u (x:o1s):Option Int:=((u05 (x.1,(x.2,((x.1.length:Int),0)))).bind fun r2=>match r2 with | .inl o3=>(some (-1:Int)) | .inr z4=>(some z4))
theorem u8w:u3y=u3u:=zC 10014 rfl Tryz.func148 (by kernel_rfl)
end
end Go.Proofs.YtbkicjpdlchbgaaGreat.Ab
