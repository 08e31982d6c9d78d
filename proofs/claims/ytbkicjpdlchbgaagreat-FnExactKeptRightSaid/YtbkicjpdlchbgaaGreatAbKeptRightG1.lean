import Derived.Test.YtbkicjpdlchbgaaGreatAbK2
import Derived.Test.YtbkicjpdlchbgaaGreatAbF4
import Derived.Test.YtbkicjpdlchbgaaGreatAbS1
import Derived.KernelRfl
import Derived.Test.YtbkicjpdlchbgaaGreatProg
namespace Go.Proofs.YtbkicjpdlchbgaaGreat.Ab
open Go
set_option linter.unusedVariables false
noncomputable section
abbrev r36:Ty:=(.pair .str .str)
abbrev o4y:Ty:=(.pair .str .bool)
abbrev u2k:Ty:=(.pair .str o4y)
abbrev o4v:Ty:=(.pair .bool .str)
abbrev p1e:Ty:=(.pair (.sl u2k) o4v)
abbrev r9i:Ty:=(.pair (.sl r36) p1e)
abbrev r4t:Ty:=(.pair (.int .i64) r9i)
abbrev r1l:Ty:=(.pair (.int .i64) r4t)
abbrev s8a:Ty:=(.pair (.int .i64) r1l)
abbrev u0a:Ty:=(.pair (.int .i64) s8a)
abbrev o4u:Ty:=(.pair .bool (.int .i64))
abbrev p9u:Ty:=(.pair .str o4u)
abbrev u0d:Ty:=(.pair .str p9u)
abbrev q0k:Ty:=(.pair (.int .i64) .str)
abbrev o4x:Ty:=(.pair (.int .i64) (.int .i64))
abbrev t6x:Ty:=(.pair (.sl u0a) o4x)
abbrev p36:Ty:=(.pair (.sl u0a) t6x)
abbrev q0t:Ty:=(.pair (.sl u0d) p36)
abbrev q8v:Ty:=(.pair q0t (.sl u0a))
abbrev p14:Ty:=(.pair (.sl .str) (.sl q0k))
abbrev q8u:Ty:=(.pair q8v p14)
abbrev p9t:Ty:=(.pair (.sl (.int .i64)) (.sl .str))
abbrev p31:Ty:=(.pair (.sl u0a) p9t)
abbrev p35:Ty:=(.pair q8u p31)
abbrev p32:Ty:=(.pair .bool q0t)
abbrev p37:Ty:=(.pair .str p32)
abbrev p34:Ty:=(.pair u0a p37)
abbrev p33:Ty:=(.pair (.int .i64) p34)
abbrev o4w:Ty:=(.pair (.int .i64) .bool)
abbrev p7a:Ty:=(.pair .str o4w)
abbrev t7p:=((List ByteArray)×(List q0k.den))
abbrev o4a:=((List ByteArray)×(List ByteArray))
abbrev o1i:=((ByteArray×ByteArray)×ByteArray)
abbrev o1h:=((List r36.den)×(List u2k.den))
abbrev o39:=((Int×ByteArray)×(Int×ByteArray))
abbrev o38:=((List u2k.den)×(List u2k.den))
abbrev o1g:=(ByteArray×(ByteArray×(Int×Bool)))
abbrev o37:=((ByteArray×(ByteArray×Bool))×Int)
abbrev p5u:=(ByteArray×(ByteArray×(Bool×Int)))
abbrev o36:=(ByteArray×(Int×(Int×(Int×Int))))
abbrev p7d:=((List u0d.den)×(ByteArray×Int))
abbrev o35:=((List Int)×((List Int)×(Int×Int)))
abbrev p7c:=(List (List u0a.den))
abbrev p5t:=((List u0a.den)×Int)
abbrev o1f:=((List u0d.den)×(List u0d.den))
abbrev o1e:=((List q0k.den)×((List q0k.den)×Int))
abbrev p9d:=((List r36.den)×((List r36.den)×Int))
abbrev o34:=(Int×t7p)
abbrev q05:=(t7p×Int)
abbrev o1d:=((List r36.den)×((List u2k.den)×Int))
abbrev o1c:=((List ByteArray)×((List ByteArray)×Int))
abbrev o33:=((List Int)×((List ByteArray)×(Int×Int)))
abbrev o32:=((List u0d.den)×(ByteArray×ByteArray))
abbrev o1b:=((List u2k.den)×((List u2k.den)×Int))
abbrev o31:=(p5u×Int)
abbrev p9c:=((List u0a.den)×ByteArray)
abbrev o1a:=((List u0d.den)×((List u2k.den)×Int))
abbrev o30:=(p7c×Int)
abbrev o3z:=((List u0d.den)×(Int×(List u0d.den)))
abbrev o09:=(Int×o1f)
abbrev p54:=((List u0a.den)×(Int×Int))
abbrev p53:=((List u0d.den)×((List u0d.den)×Int))
abbrev o3y:=((ByteArray×ByteArray)×(ByteArray×ByteArray))
abbrev o3x:=((List r36.den)×((List r36.den)×(Int×Int)))
abbrev o08:=(t7p×(Int×Int))
abbrev o3w:=(Int×q05)
abbrev o07:=((List u2k.den)×((List r36.den)×(Int×Int)))
abbrev o3v:=(Int×(ByteArray×((List q0k.den)×(Int×Int))))
abbrev o3u:=((List r36.den)×((List u2k.den)×(Int×Int)))
abbrev o06:=((List u0d.den)×((ByteArray×ByteArray)×Int))
abbrev o3t:=((List u2k.den)×((List u2k.den)×(Int×Int)))
abbrev o3s:=((List ByteArray)×((List u0d.den)×(Int×Int)))
abbrev o3r:=((List u2k.den)×(Int×((List u0d.den)×Int)))
abbrev o3q:=((List u0d.den)×(ByteArray×(Int×(Int×Int))))
abbrev o3p:=((List u0a.den)×(ByteArray×Int))
abbrev o3o:=(ByteArray×(Int×((List u0d.den)×(Int×Int))))
abbrev o3n:=(Int×p53)
abbrev o05:=((List u0d.den)×((List u0d.den)×(Int×Int)))
abbrev o3m:=((List u0d.den)×(Int×((List u0d.den)×Int)))
abbrev p9x:=(Int×p54)
abbrev o04:=((List u0a.den)×(Int×(Int×Int)))
abbrev o3l:=((List u0d.den)×p5u)
abbrev o3k:=(Int×((List u0d.den)×((List u2k.den)×(Int×Int))))
abbrev p9b:=((List u0a.den)×(ByteArray×(Int×Int)))
abbrev o3j:=((List u0d.den)×((List (List u0d.den))×(Int×Int)))
abbrev o03:=((ByteArray×(Int×Bool))×(List u0a.den))
abbrev o3i:=((List u0a.den)×(ByteArray×(Int×Bool)))
abbrev o2m:=(Int×o05)
abbrev o3h:=((ByteArray×(ByteArray×Bool))×(ByteArray×(ByteArray×Bool)))
abbrev o3g:=(t7p×((List q0k.den)×(Int×Int)))
abbrev o3f:=(t7p×((List ByteArray)×(Int×Int)))
abbrev o02:=((List Int)×(p7c×(Int×Int)))
abbrev o3e:=(Int×(Int×(t7p×(ByteArray×Int))))
abbrev p9w:=((List u0a.den)×(List u0a.den))
abbrev o3d:=(Int×((List u0d.den)×((List u0d.den)×(Int×(Int×Int)))))
abbrev o3c:=(Int×(Int×(t7p×((List Int)×Int))))
abbrev o3b:=((List u0d.den)×((ByteArray×ByteArray)×(Int×(List ByteArray))))
abbrev o3a:=((List u0d.den)×(Int×((List r36.den)×((List ByteArray)×Int))))
abbrev o29:=((List u0d.den)×((ByteArray×ByteArray)×((List ByteArray)×Int)))
abbrev o28:=(t7p×t7p)
abbrev o27:=((List u0d.den)×(p5u×(Int×Int)))
abbrev Z99:=((List (List u0d.den))×(Int×((List (List u0d.den))×(Int×Int))))
abbrev Z98:=((List u0a.den)×p5t)
abbrev Z97:=((List u0a.den)×((List u0a.den)×Unit))
abbrev Z96:=(p5u×p5u)
abbrev Z95:=((List u0d.den)×((List u0d.den)×(Int×((ByteArray×ByteArray)×Int))))
abbrev Z94:=((List u0d.den)×(ByteArray×(Int×(Int×((List u0d.den)×(Int×Int))))))
abbrev Z93:=((ByteArray×(Int×Bool))×p9x)
abbrev Z92:=(Int×((List u0d.den)×o05))
abbrev Z91:=((List u0d.den)×o2m)
abbrev Z90:=(Int×(o1f×((List u0d.den)×(Int×Int))))
abbrev Z89:=((List u0a.den)×p54)
abbrev Z88:=(Int×(Int×(Int×(Int×((List r36.den)×((List u2k.den)×(Bool×ByteArray)))))))
abbrev Z87:=(Int×(t7p×(ByteArray×((List ByteArray)×(Int×Int)))))
abbrev Z86:=((List u0a.den)×(p7c×(Int×Int)))
abbrev Z85:=((List u0a.den)×p9x)
abbrev Z84:=(Z88×Int)
abbrev Z83:=((List u0a.den)×(Unit×p54))
abbrev Z82:=(Z88×ByteArray)
abbrev Z81:=(Z88×(List Int))
abbrev Z80:=(Z88×(Int×Bool))
abbrev Z79:=((List u0d.den)×((ByteArray×ByteArray)×((List ByteArray)×(Int×(ByteArray×(List ByteArray))))))
abbrev Z78:=((List u0d.den)×(Int×((ByteArray×ByteArray)×((List r36.den)×((List ByteArray)×(Int×Int))))))
abbrev Z77:=(p7c×(Int×(p7c×(Int×Int))))
abbrev Z76:=(Z88×(ByteArray×Int))
abbrev Z75:=((List u0d.den)×Z89)
abbrev Z74:=(Int×(t7p×((List ByteArray)×(ByteArray×((List ByteArray)×(Int×Int))))))
abbrev Z73:=((List u0d.den)×((ByteArray×ByteArray)×((List ByteArray)×(Int×(ByteArray×((List ByteArray)×Int))))))
abbrev Z72:=((List u2k.den)×((ByteArray×ByteArray)×((List r36.den)×(Int×(Int×((List u2k.den)×(Int×Int)))))))
abbrev Z71:=((ByteArray×(Int×Bool))×Z88)
abbrev Z70:=(Z75×Int)
abbrev Z69:=(Z88×(ByteArray×(Int×Bool)))
abbrev Z68:=(Z75×Bool)
abbrev Z67:=(Z88×((List r36.den)×(Int×Int)))
abbrev Z66:=(Z75×ByteArray)
abbrev Z65:=((List Int)×(p7c×(Int×p9x)))
abbrev Z64:=(Z75×(List Int))
abbrev Z63:=((ByteArray×(Int×Bool))×(Unit×Z88))
abbrev Z62:=((List u0a.den)×Z88)
abbrev Z61:=(Z75×(Int×Bool))
abbrev Z60:=(Z88×(List u0a.den))
abbrev Z59:=((ByteArray×(Int×Bool))×(Z88×Unit))
abbrev Z58:=((List u2k.den)×(Int×((List u0d.den)×(Int×(p5u×((List u0d.den)×Int))))))
abbrev Z57:=(Z75×(ByteArray×Int))
abbrev Z56:=(ByteArray×Z70)
abbrev Z55:=(Z75×((List Int)×Int))
abbrev Z54:=((List u0a.den)×Z84)
abbrev Z53:=(Z88×((List Int)×((List r36.den)×(Int×Int))))
abbrev Z52:=(Z88×((List Int)×((List u2k.den)×(Int×Int))))
abbrev Z51:=((ByteArray×(Int×Bool))×Z75)
abbrev Z50:=(Z75×((List Int)×(Int×Int)))
abbrev Z49:=(Z75×(ByteArray×(Int×Bool)))
abbrev Z48:=((ByteArray×(Int×Bool))×((Z88×Unit)×(Int×Int)))
abbrev Z47:=((ByteArray×(Int×Bool))×((Unit×Z88)×(Int×Int)))
abbrev Z46:=((List u0a.den)×(Z88×(Int×Int)))
abbrev Z45:=(Z75×((List u0d.den)×(Int×Int)))
abbrev Z44:=((ByteArray×(Int×Bool))×(Unit×Z75))
abbrev Z43:=((ByteArray×(Int×Bool))×(Z75×Unit))
abbrev Z42:=(Z75×(List u0a.den))
abbrev Z41:=(Z42×Int)
abbrev Z40:=(Z75×((List Int)×((List u0d.den)×(Int×Int))))
abbrev Z39:=((ByteArray×(Int×Bool))×((Unit×Z75)×(Int×Int)))
abbrev Z38:=((ByteArray×(Int×Bool))×((Z75×Unit)×(Int×Int)))
abbrev Z37:=(Z75×p54)
abbrev Z36:=(Z88×Z88)
abbrev Z35:=(Z42×t7p)
abbrev Z34:=(Z35×Int)
abbrev Z33:=(Z35×Bool)
abbrev Z32:=(Z42×p54)
abbrev Z31:=(Z75×Z88)
abbrev Z30:=(Z88×Z71)
abbrev Z29:=(Z75×Z82)
abbrev Z28:=(Z75×Z75)
abbrev Z27:=(Z88×((ByteArray×(Int×Bool))×(Z88×(Int×Int))))
abbrev Z26:=(Int×(Z88×(ByteArray×(Bool×Z75))))
abbrev Z25:=(Z26×Bool)
abbrev Z24:=(Z42×(Int×Z88))
abbrev Z23:=(Z75×(Z75×((List ByteArray)×Int)))
abbrev Z22:=(Z75×Z51)
abbrev Z21:=(Z42×(Int×Z84))
abbrev Z20:=(Z35×((List u0a.den)×((List Int)×(List ByteArray))))
abbrev Z19:=(Z75×(Z75×((List ByteArray)×(Int×Int))))
abbrev Z18:=(Z20×Int)
abbrev Z17:=(Z75×((ByteArray×(Int×Bool))×(Z75×(Int×Int))))
abbrev Z16:=(Z42×Z42)
abbrev Z15:=(Z88×Z28)
abbrev Z14:=(Z75×(Z75×Z70))
abbrev Z13:=(Z75×Z26)
abbrev Z12:=(Z75×(Z75×(Z75×(Int×Int))))
abbrev Z11:=(ByteArray×Z14)
abbrev Z10:=(Z35×Z35)
abbrev Z9:=(Z88×(Z75×Z31))
abbrev Z8:=(Z88×(Z75×(Z75×(Z88×(Unit×(Int×Int))))))
abbrev Z7:=(ByteArray×(Z75×(Z88×(Z75×Z70))))
abbrev Z6:=(Z88×(Z75×(Z75×(Z88×p9w))))
abbrev Z5:=(ByteArray×(Z88×(Z75×(Z75×(Z88×((List u0a.den)×((List u0a.den)×(Unit×(Int×Int)))))))))
abbrev Z4:=(Z20×Z20)
abbrev Z3:=(Z75×(Z88×(Z75×(Z75×Z84))))
abbrev Z2:=(ByteArray×(Z75×Z9))
abbrev Z1:=(ByteArray×Z3)
def o4k:Tabs where
 ty:= [(3,(.int .i64)),(4, .bool),(5,(.int .u8)),(9, .str),(22,(.sl (.int .u8))),(24,(.sl u0d)),(25,(.sl u0a)),(27,q0t),(29,q8v),(30,(.sl .str)),(31,(.sl q0k)),(33,p14),(35,q8u),(51,u2k),(58,(.sl (.int .i64))),(60,p35),(67,(.sl u0d)),(68,(.sl u0a)),(73,(.sl q0k)),(85,(.sl r36)),(86,(.sl u2k)),(88,u0a),(90,p33),(97,(.sl r36)),(100,r36),(155,u0d),(167,r36),(203,p7a),(210,p7a),(217,(.sl (.sl u0a))),(266,(.sl r36)),(267,(.sl u2k)),(269,u0a),(275,(.int .u32)),(307,q0k),(316,(.sl (.sl u0d))),(339,q0k),(354,r36),(356,u2k),(377,u0d)]
 lay:= [(3,1,false),(4,1,false),(9,1,false),(22,1,false),(24,1,false),(25,1,false),(27,5,true),(29,6,true),(30,1,false),(31,1,false),(33,2,true),(35,8,true),(51,3,true),(58,1,false),(60,11,true),(67,1,false),(68,1,false),(70,5,true),(72,6,true),(73,1,false),(75,2,true),(77,8,true),(79,11,true),(85,1,false),(86,1,false),(88,8,true),(90,16,true),(100,2,true),(155,4,true),(167,2,true),(201,1,false),(266,1,false),(267,1,false),(269,8,true),(307,2,true),(339,2,true),(354,2,true),(356,3,true),(377,4,true)]
 fld:= [(27, [(0,1,false),(1,1,false),(2,1,false),(3,1,false),(4,1,false)]),(29, [(0,5,true),(5,1,false)]),(33, [(0,1,false),(1,1,false)]),(35, [(0,6,true),(6,2,true)]),(51, [(0,1,false),(1,1,false),(2,1,false)]),(60, [(0,8,true),(8,1,false),(9,1,false),(10,1,false)]),(70, [(0,1,false),(1,1,false),(2,1,false),(3,1,false),(4,1,false)]),(72, [(0,5,true),(5,1,false)]),(75, [(0,1,false),(1,1,false)]),(77, [(0,6,true),(6,2,true)]),(79, [(0,8,true),(8,1,false),(9,1,false),(10,1,false)]),(88, [(0,1,false),(1,1,false),(2,1,false),(3,1,false),(4,1,false),(5,1,false),(6,1,false),(7,1,false)]),(90, [(0,1,false),(1,8,true),(9,1,false),(10,1,false),(11,5,true)]),(100, [(0,1,false),(1,1,false)]),(155, [(0,1,false),(1,1,false),(2,1,false),(3,1,false)]),(167, [(0,1,false),(1,1,false)]),(196, [(0,1,false)]),(203, [(0,1,false),(1,1,false),(2,1,false)]),(210, [(0,1,false),(1,1,false),(2,1,false)]),(269, [(0,1,false),(1,1,false),(2,1,false),(3,1,false),(4,1,false),(5,1,false),(6,1,false),(7,1,false)]),(307, [(0,1,false),(1,1,false)]),(339, [(0,1,false),(1,1,false)]),(354, [(0,1,false),(1,1,false)]),(356, [(0,1,false),(1,1,false),(2,1,false)]),(377, [(0,1,false),(1,1,false),(2,1,false),(3,1,false)])]
 eqs:= [(167, [.s, .s])]
 tz:= [(196,(.sl (.int .u8)))]
abbrev zL (a:List Nat) (s:Sh) (n:Nat) (b:List Nat) (t:Sh) (c:List Nat) (u:Sh):LoopA:=⟨⟨a,s, []⟩,n,⟨b,t, []⟩,⟨c,u, []⟩⟩
def zS (i o:Sh) (n:Nat:=1) (b:List Bool:= []):Sig:=⟨i,b,o,n⟩
abbrev o5b:Ty:=.sl u0a
abbrev o1o:Ty:=.int .u8
abbrev o0q:Ty:=.int .i64
abbrev o5c:Ty:=.sl u0d
abbrev u04:Sh:=.int .i64
abbrev s78:Sh:=.tr false u0a
abbrev r4o:Sh:=.own true u0a
abbrev t7o:Sh:=.pair u04 u04
abbrev s4s:Sh:=.tr false u0d
abbrev o0s:Sh:=.pair .str (.pair .str (.pair .bool u04))
abbrev q0i:Sh:=.own true u0d
abbrev o0r:Sh:=.pair q0i (.pair r4o (.pair r4o t7o))
abbrev q6h:Sh:=.tr false u2k
abbrev q3i:Sh:=.own true .str
abbrev s8d:Sh:=.box o0r
abbrev q3k:Sh:=.pair .str .bool
abbrev q6i:Sh:=.box (.own true o1o)
abbrev q3l:Sh:=.tr false r36
abbrev o1w:Sh:=.pair u04 (.pair u04 (.pair u04 (.pair u04 (.pair q3l (.pair q6h (.pair .bool .str))))))
abbrev o2w:Sh:=.pair .str .str
abbrev p12:Sh:=.pair .str u04
abbrev r9d:Sh:=.agg o1w
abbrev q0p:Sh:=.box o1w
abbrev o1y:Sh:=.rbox (.ref 0)
abbrev p83:Sh:=.pair u04 .bool
abbrev t9w:Sh:=.box (.pair .str p83)
abbrev o1z:Sh:=.pair (.pair o0r r4o) (.pair q3i (.own true q0k))
abbrev p01:Sh:=.agg o0r
abbrev p84:Sh:=.agg (.pair .str q3k)
abbrev p3t:Sh:=.tr false .str
abbrev p7w:Sh:=.tr true u0d
abbrev p5q:Sh:=.pair s78 t7o
abbrev o1v:Sh:=.pair s4s (.pair s78 p5q)
abbrev p82:Sh:=.agg (.pair u04 (.pair o1w (.pair .str (.pair .bool o1v))))
abbrev p7v:Sh:=.pair o1v s78
abbrev r9e:Sh:=.agg o1v
abbrev r9f:Sh:=.box o1v
abbrev p5r:Sh:=.rbox o1w
abbrev p5s:Sh:=.tr false q0k
abbrev o1x:Sh:=.pair p3t p5s
abbrev q6j:Sh:=.agg o1x
abbrev p69:Sh:=.pair q6j u04
abbrev p9m:Sh:=.agg (.pair p7v o1x)
abbrev p3y:Sh:=.int .u32
abbrev p5x:Sh:=.tr false o0q
abbrev p81:Sh:=.agg (.pair (.pair p7v o1x) (.pair s78 (.pair p5x p3t)))
abbrev p5y:Sh:=.own true r36
abbrev p80:Sh:=.pair u04 (.pair u04 (.pair u04 (.pair u04 (.pair p5y (.pair (.own true u2k) (.pair .bool .str))))))
abbrev q8n:Sh:=.box p80
abbrev p21:Sh:=.agg o2w
abbrev p7x:Sh:=.pair s4s t7o
abbrev o0t:Sh:=.tr false o5b
abbrev p3u:Sh:=.box o1x
abbrev o0u:Sh:=.agg (.pair u04 .str)
abbrev p85:Sh:=.pair s4s u04
abbrev p86:Sh:=.pair r9d r9d
abbrev p87:Sh:=.pair q6h u04
abbrev o13:Sh:=.pair u04 (.own true o1o)
abbrev o4o:Sh:=.pair (.agg (.pair u04 (.pair p80 (.pair .str (.pair .bool o0r))))) .bool
abbrev p88:Sh:=.rbox t9w
abbrev p89:Sh:=.own true o0q
abbrev o2x:Sh:=.own false u0a
abbrev p9n:Sh:=.pair u04 t7o
abbrev p9o:Sh:=.pair s8d o1y
abbrev p9p:Sh:=.pair q6h t7o
abbrev p9q:Sh:=.pair q3l t7o
abbrev o2y:Sh:=.agg (.pair q3i (.own true q0k))
abbrev o15:Sh:=.clo 237 (.rbox u04)
abbrev o18:Sh:=.clo 280 (.rbox .str)
abbrev o0v:Sh:=.pair r4o u04
abbrev o0w:Sh:=.pair s8d s8d
abbrev o2z:Sh:=.pair s8d (.pair s8d u04)
abbrev p7y:Sh:=.agg o0s
abbrev o20:Sh:=.pair s78 (.clo 289 p5r)
abbrev o21:Sh:=.clo 299 (.pair o1y s8d)
abbrev o22:Sh:=.clo 302 (.pair q8n o1y)
abbrev o23:Sh:=.clo 303 (.pair o1y q8n)
abbrev o24:Sh:=.pair s78 (.clo 386 p5r)
abbrev o0x:Sh:=.tr false o5c
abbrev o4p:Sh:=.pair (.box p7v) (.pair u04 (.pair q0p u04))
abbrev p9r:Sh:=.tr true .str
abbrev o2a:Sh:=.pair p01 .bool
abbrev o2b:Sh:=.pair s78 u04
abbrev o2c:Sh:=.pair u04 p83
abbrev o2d:Sh:=.pair s8d p88
abbrev o2e:Sh:=.pair r9e .str
abbrev o2f:Sh:=.pair r9e s78
abbrev o2g:Sh:=.pair s4s p12
abbrev o2h:Sh:=.pair q3i p83
abbrev o2i:Sh:=.pair o0t t7o
abbrev o2j:Sh:=.pair p3y p12
abbrev o4q:Sh:=.pair q0p (.pair s8d (.pair s8d q8n))
abbrev o0y:Sh:=.pair q3i u04
abbrev o0z:Sh:=.pair q0i u04
abbrev o4n:Sh:=.pair q6h (.pair u04 (.pair p7w (.pair u04 (.pair (.box o0s) o0z))))
abbrev o4r:Sh:=.pair q8n (.pair t9w (.pair q8n t7o))
abbrev o4s:Sh:=.clo 239 (.pair (.box s4s) (.box s4s))
abbrev o4t:Sh:=.pair r9f (.pair (.tr true o0q) u04)
abbrev p9s:Sh:=.agg p7v
abbrev p9a:Sh:=.box o2w
abbrev o4m:Sh:=.pair s4s (.pair p9a (.pair p9r (.pair u04 (.pair .str o0y))))
def p8h:Nat→Sig
 | 125=>zS r9d .bool
 | 289=>zS (.pair r9d p5r) .bool
 | 10005=>zS o20 u04
 | 10004=>zS o20 .bool
 | 10003=>zS o20 .bool
 | 163=>zS o2b .bool
 | 290=>zS (.pair .nil u04) r4o
 | 164=>zS o0t o2x
 | 205=>zS p9n .bool
 | 142=>zS .str .bool
 | 208=>zS p21 .bool
 | 157=>zS p84 .bool
 | 291=>zS q6h .bool
 | 165=>zS r9d .bool
 | 195=>zS r9d .bool
 | 433=>zS .str .bool
 | 372=>zS o2w u04
 | 434=>zS u04 .bool
 | 373=>zS t7o u04
 | 256=>zS (.pair p7y p7y) u04
 | 204=>zS s4s .bool
 | 76=>zS r9e .bool
 | 312=>zS u04 q3k 2
 | 294=>zS .str q3k 2
 | 167=>zS (.pair q6i p3t) q6i 0 [true,false]
 | 168=>zS (.pair q6i .bool) q6i 0 [true,false]
 | 184=>zS (.pair q6i p5x) q6i 0 [true,false]
 | 169=>zS r9d q3k 2
 | 62=>zS r9e q3k 2
 | 193=>zS r9d .bool
 | 194=>zS r9e .bool
 | 67=>zS p82 .bool
 | 390=>zS (.pair p3y .str) p3y
 | 295=>zS .str p3y
 | 170=>zS .str q3k 2
 | 57=>zS p82 q3k 2
 | 171=>zS .str q3k 2
 | 391=>zS p12 o2c 3
 | 296=>zS p12 (.pair .str p83) 3
 | 172=>zS t9w (.pair .str t9w) 1 [true]
 | 173=>zS t9w (.pair .bool t9w) 1 [true]
 | 297=>zS t9w (.pair u04 t9w) 1 [true]
 | 299=>zS (.pair p88 s8d) (.pair p88 s8d) 0 [true,true]
 | 10015=>zS (.pair t9w o21) (.pair t9w (.clo 299 (.pair .skip s8d))) 0 [true,true]
 | 302=>zS (.pair q8n p88) (.pair q8n p88) 0 [true,true]
 | 10017=>zS (.pair t9w o22) (.pair t9w (.clo 302 (.pair q8n .skip))) 0 [true,true]
 | 303=>zS (.pair p88 q8n) (.pair p88 q8n) 0 [true,true]
 | 10018=>zS (.pair t9w o23) (.pair t9w (.clo 303 (.pair .skip q8n))) 0 [true,true]
 | 175=>zS t9w (.pair (.agg p80) t9w) 1 [true]
 | 300=>zS o2d o2d 0 [true,true]
 | 10016=>zS (.pair t9w (.clo 300 p9o)) (.pair t9w (.clo 300 (.pair s8d .skip))) 0 [true,true]
 | 301=>zS o2d o2d 0 [true,true]
 | 10019=>zS (.pair t9w (.clo 301 p9o)) (.pair t9w (.clo 301 (.pair s8d .skip))) 0 [true,true]
 | 174=>zS t9w (.pair p01 t9w) 1 [true]
 | 58=>zS .str o4o 2
 | 149=>zS (.pair r9d (.rbox .str)) .bool
 | 10012=>zS (.pair s78 (.clo 149 (.rbox .str))) u04
 | 42=>zS o2e u04
 | 147=>zS r9d (.agg p80)
 | 271=>zS s78 r4o
 | 200=>zS r9e p01
 | 235=>zS o2f u04
 | 363=>zS o2g u04
 | 364=>zS (.pair .str (.rbox s4s)) u04
 | 238=>zS p85 q0i
 | 237=>zS (.pair r9d (.rbox u04)) .bool
 | 10002=>zS (.pair s78 o15) u04
 | 10001=>zS (.pair r4o o15) r4o
 | 100=>zS o2f p01
 | 258=>zS (.pair p21 .str) .bool
 | 252=>zS (.pair q3l q6h) .bool
 | 442=>zS p86 .bool
 | 384=>zS p86 .bool
 | 273=>zS p86 .bool
 | 386=>zS (.pair r9d p5r) .bool
 | 10009=>zS o24 u04
 | 10008=>zS o24 .bool
 | 10007=>zS o24 .bool
 | 278=>zS (.pair r9d s78) .bool
 | 146=>zS (.pair r9e (.pair r9d .str)) p01
 | 257=>zS (.pair q0i (.pair u04 q0i)) q0i
 | 255=>zS (.pair p7y (.rbox o0s)) .bool
 | 10006=>zS (.pair s4s (.clo 255 (.rbox o0s))) u04
 | 120=>zS (.pair s4s p87) q0i
 | 279=>zS (.pair r9d p5r) .bool
 | 10011=>zS (.pair s78 (.clo 279 p5r)) u04
 | 10010=>zS (.pair r4o (.clo 279 p5r)) r4o
 | 150=>zS (.pair r9e r9d) p01
 | 280=>zS (.pair r9d (.rbox .str)) .bool
 | 10014=>zS (.pair s78 o18) u04
 | 10013=>zS (.pair r4o o18) r4o
 | 152=>zS o2e p01
 | 72=>zS (.pair r9e p82) o2a 2
 | 98=>zS .unit p01
 | 426=>zS p69 q3k 2
 | 358=>zS (.pair q6j t7o) q3k 2
 | 360=>zS u04 .bool
 | 359=>zS u04 u04
 | 362=>zS p69 u04
 | 361=>zS p69 u04
 | 232=>zS p69 o2h 3
 | 234=>zS q6j u04
 | 99=>zS q6j q3i
 | 18=>zS q6j o2a 2
 | 233=>zS q6j .bool
 | 96=>zS q6j .bool
 | 97=>zS q6j o2y
 | 17=>zS q6j (.pair (.agg o1z) .bool) 2
 | 121=>zS (.pair q3l q3l) .bool
 | 325=>zS q3i q3i 0 [true]
 | 326=>zS q3i q3i
 | 259=>zS s4s q3i
 | 260=>zS o2g q3k 2
 | 123=>zS (.pair s4s (.pair p21 u04)) p5y
 | 126=>zS .unit p21
 | 239=>zS (.pair u04 (.pair (.rbox s4s) (.rbox s4s))) .bool
 | 365=>zS (.pair .nil u04) q0i
 | 240=>zS o0x q0i
 | 103=>zS (.pair s4s p85) .bool
 | 102=>zS p86 .bool
 | 10000=>zS (.pair s78 (.pair s78 (.clo 102 .unit))) .bool
 | 20=>zS (.pair r9e r9e) .bool
 | 55=>zS p9s .bool
 | 19=>zS p9m .bool
 | 35=>zS p81 .bool
 | 436=>zS (.pair p21 u04) u04
 | 376=>zS (.pair q3l u04) u04
 | 437=>zS (.pair p84 u04) u04
 | 377=>zS p87 u04
 | 262=>zS (.pair r9d u04) u04
 | 129=>zS o2b u04
 | 458=>zS (.pair p7y u04) u04
 | 400=>zS p85 u04
 | 327=>zS (.pair r9e u04) u04
 | 210=>zS (.pair p9s u04) u04
 | 131=>zS (.pair p3t u04) u04
 | 401=>zS (.pair o0u u04) u04
 | 328=>zS (.pair p5s u04) u04
 | 211=>zS p69 u04
 | 80=>zS (.pair p9m u04) u04
 | 130=>zS (.pair p5x u04) u04
 | 36=>zS (.pair p81 u04) u04
 | 438=>zS p21 p21
 | 380=>zS q3l p5y
 | 439=>zS p84 p84
 | 381=>zS q6h (.own true u2k)
 | 268=>zS r9d (.agg p80)
 | 133=>zS s78 r4o
 | 459=>zS p7y p7y
 | 402=>zS s4s q0i
 | 333=>zS r9e p01
 | 214=>zS p9s (.agg (.pair o0r r4o))
 | 135=>zS p3t q3i
 | 403=>zS o0u o0u
 | 334=>zS p5s (.own true q0k)
 | 215=>zS q6j o2y
 | 82=>zS p9m (.agg o1z)
 | 134=>zS p5x p89
 | 38=>zS p81 (.agg (.pair o1z (.pair r4o (.pair p89 q3i))))
 | 440=>zS (.pair p21 p21) .bool
 | 382=>zS (.pair q3l q3l) .bool
 | 441=>zS (.pair p84 p84) .bool
 | 383=>zS (.pair q6h q6h) .bool
 | 269=>zS p86 .bool
 | 136=>zS (.pair s78 s78) .bool
 | 460=>zS (.pair p7y p7y) .bool
 | 404=>zS (.pair s4s s4s) .bool
 | 335=>zS (.pair r9e r9e) .bool
 | 216=>zS (.pair p9s p9s) .bool
 | 138=>zS (.pair p3t p3t) .bool
 | 405=>zS (.pair o0u o0u) .bool
 | 336=>zS (.pair p5s p5s) .bool
 | 217=>zS (.pair q6j q6j) .bool
 | 83=>zS (.pair p9m p9m) .bool
 | 137=>zS (.pair p5x p5x) .bool
 | 39=>zS (.pair p81 p81) .bool
 | 106=>zS r9d (.agg p80)
 | 241=>zS s78 r4o
 | 104=>zS r9e p01
 | 105=>zS o2f u04
 | 113=>zS o2g u04
 | 107=>zS p85 q0i
 | 21=>zS o2f p01
 | 188=>zS p9n .bool
 | 191=>zS .str .bool
 | 110=>zS p84 .bool
 | 243=>zS q6h .bool
 | 316=>zS p21 .bool
 | 189=>zS r9d .bool
 | 197=>zS s4s .bool
 | 69=>zS r9e .bool
 | 313=>zS u04 .str
 | 315=>zS p12 o2c 3
 | 310=>zS p12 (.pair .str p83) 3
 | 180=>zS t9w (.pair .str t9w) 1 [true]
 | 181=>zS t9w (.pair .bool t9w) 1 [true]
 | 186=>zS t9w (.pair u04 t9w) 1 [true]
 | 182=>zS p12 (.pair (.agg p80) p83) 3
 | 187=>zS (.pair t9w u04) (.pair r4o t9w) 1 [true,false]
 | 65=>zS p12 (.pair p01 p83) 3
 | 190=>zS r9d .bool
 | 192=>zS r9e .bool
 | 66=>zS p82 .bool
 | 307=>zS p3y .str
 | 392=>zS (.pair p3y .str) p3y
 | 308=>zS .str p3y
 | 178=>zS .str q3k 2
 | 304=>zS .str .str
 | 305=>zS .bool .str
 | 306=>zS r9d q3k 2
 | 314=>zS s78 .str
 | 185=>zS r9e q3k 2
 | 176=>zS p82 q3k 2
 | 177=>zS .str q3k 2
 | 60=>zS .str o4o 2
 | 287=>zS p86 .bool
 | 281=>zS (.pair p21 .str) .bool
 | 288=>zS (.pair q3l q6h) .bool
 | 162=>zS p86 .bool
 | 161=>zS (.pair r9d s78) .bool
 | 379=>zS (.pair s4s p87) q0i
 | 318=>zS (.pair r9e r9d) p01
 | 319=>zS o2e u04
 | 320=>zS (.pair r9e (.pair r9d .str)) p01
 | 321=>zS o2e p01
 | 201=>zS (.pair r9e p82) (.pair r9e .bool) 2
 | 73=>zS (.pair r9e p82) o2a 2
 | 417=>zS p69 q3k 2
 | 344=>zS (.pair q6j t7o) q3k 2
 | 345=>zS u04 u04
 | 347=>zS p69 u04
 | 346=>zS p69 u04
 | 227=>zS p69 o2h 3
 | 228=>zS q6j u04
 | 91=>zS q6j q3i
 | 223=>zS .unit p01
 | 88=>zS q6j o2a 2
 | 109=>zS p9s .bool
 | 329=>zS q6j .bool
 | 330=>zS .unit u04
 | 212=>zS q6j .bool
 | 331=>zS (.pair s78 s78) .bool
 | 27=>zS o2g q3k 2
 | 153=>zS (.pair s4s p21) q3i
 | 46=>zS (.pair s4s (.pair p21 u04)) p5y
 | 265=>zS (.pair q3l q3l) .bool
 | 338=>zS .unit p21
 | 332=>zS (.pair s4s p85) .bool
 | 213=>zS (.pair r9e r9e) .bool
 | 81=>zS p9m .bool
 | 337=>zS q6j o2y
 | 218=>zS q6j (.pair (.agg o1z) .bool) 2
 | 84=>zS p81 .bool
 | 12=>zS p81 .bool
 | _=>zS .unit .unit 0
def p98:Nat→Nat→Option Join
 | 205,3=>some ⟨[6],.bool,[]⟩
 | 142,9=>some ⟨[19],.bool,[]⟩
 | 208,3=>some ⟨[2],.bool,[]⟩
 | 157,3=>some ⟨[2],.bool,[]⟩
 | 291,9=>some ⟨[29],.bool,[]⟩
 | 165,15=>some ⟨[52],.bool,[]⟩
 | 165,19=>some ⟨[74],.bool,[]⟩
 | 165,23=>some ⟨[2],.bool,[]⟩
 | 204,9=>some ⟨[50],.bool,[]⟩
 | 76,3=>some ⟨[36],.bool,[]⟩
 | 76,25=>some ⟨[88],.bool,[]⟩
 | 76,37=>some ⟨[128],.bool,[]⟩
 | 193,3=>some ⟨[2],.bool,[]⟩
 | 194,3=>some ⟨[2],.bool,[]⟩
 | 67,11=>some ⟨[3],.bool,[]⟩
 | 67,15=>some ⟨[3],.bool,[]⟩
 | 67,25=>some ⟨[2],.bool,[]⟩
 | 171,11=>some ⟨[26],.bool,[]⟩
 | 391,11=>some ⟨[26],.bool,[]⟩
 | 391,23=>some ⟨[57],.bool,[]⟩
 | 296,5=>some ⟨[30],.bool,[]⟩
 | 172,5=>some ⟨[26],.bool,[]⟩
 | 173,3=>some ⟨[32],.bool,[]⟩
 | 297,5=>some ⟨[26],.bool,[]⟩
 | 10015,5=>some ⟨[17],.bool,[]⟩
 | 10017,5=>some ⟨[17],.bool,[]⟩
 | 10018,5=>some ⟨[17],.bool,[]⟩
 | 10016,5=>some ⟨[17],.bool,[]⟩
 | 10019,5=>some ⟨[17],.bool,[]⟩
 | 58,5=>some ⟨[20],.bool,[]⟩
 | 58,29=>some ⟨[64],.bool,[]⟩
 | 363,11=>some ⟨[40],.bool,[]⟩
 | 238,11=>some ⟨[31],.bool,[]⟩
 | 258,3=>some ⟨[4],.bool,[]⟩
 | 442,3=>some ⟨[4],.bool,[]⟩
 | 273,3=>some ⟨[4],.bool,[]⟩
 | 386,3=>some ⟨[3],.bool,[]⟩
 | 72,3=>some ⟨[16],.bool,[]⟩
 | 72,23=>some ⟨[6],.bool,[]⟩
 | 72,33=>some ⟨[72],.bool,[]⟩
 | 72,41=>some ⟨[92],.bool,[]⟩
 | 360,3=>some ⟨[2],.bool,[]⟩
 | 362,5=>some ⟨[18],.bool,[]⟩
 | 232,5=>some ⟨[29],.bool,[]⟩
 | 232,21=>some ⟨[49],.bool,[]⟩
 | 18,15=>some ⟨[35],.bool,[]⟩
 | 233,21=>some ⟨[38],.bool,[]⟩
 | 233,27=>some ⟨[2],.bool,[]⟩
 | 96,7=>some ⟨[2],.bool,[]⟩
 | 17,5=>some ⟨[17],.bool,[]⟩
 | 260,5=>some ⟨[21],.bool,[]⟩
 | 123,13=>some ⟨[31],.bool,[]⟩
 | 102,7=>some ⟨[4],.bool,[]⟩
 | 55,13=>some ⟨[71],.bool,[]⟩
 | 19,5=>some ⟨[2],.bool,[]⟩
 | 35,5=>some ⟨[2],.bool,[]⟩
 | 113,11=>some ⟨[47],.bool,[]⟩
 | 107,13=>some ⟨[38],.bool,[]⟩
 | 107,37=>some ⟨[90],.bool,[]⟩
 | 188,3=>some ⟨[6],.bool,[]⟩
 | 191,9=>some ⟨[19],.bool,[]⟩
 | 110,3=>some ⟨[2],.bool,[]⟩
 | 243,9=>some ⟨[33],.bool,[]⟩
 | 316,3=>some ⟨[2],.bool,[]⟩
 | 189,3=>some ⟨[31],.bool,[]⟩
 | 189,17=>some ⟨[67],.bool,[]⟩
 | 189,21=>some ⟨[86],.bool,[]⟩
 | 189,25=>some ⟨[2],.bool,[]⟩
 | 197,11=>some ⟨[39],.bool,[]⟩
 | 197,15=>some ⟨[74],.bool,[]⟩
 | 69,3=>some ⟨[38],.bool,[]⟩
 | 69,27=>some ⟨[98],.bool,[]⟩
 | 69,41=>some ⟨[146],.bool,[]⟩
 | 315,13=>some ⟨[25],.bool,[]⟩
 | 315,23=>some ⟨[54],.bool,[]⟩
 | 310,5=>some ⟨[30],.bool,[]⟩
 | 180,5=>some ⟨[26],.bool,[]⟩
 | 181,3=>some ⟨[30],.bool,[]⟩
 | 186,5=>some ⟨[26],.bool,[]⟩
 | 182,17=>some ⟨[46],.bool,[]⟩
 | 182,31=>some ⟨[76],.bool,[]⟩
 | 182,47=>some ⟨[108],.bool,[]⟩
 | 187,9=>some ⟨[28],.bool,[]⟩
 | 65,13=>some ⟨[37],.bool,[]⟩
 | 65,31=>some ⟨[72],.bool,[]⟩
 | 190,3=>some ⟨[2],.bool,[]⟩
 | 192,3=>some ⟨[2],.bool,[]⟩
 | 66,7=>some ⟨[3],.bool,[]⟩
 | 66,9=>some ⟨[54],.bool,[]⟩
 | 66,13=>some ⟨[77],.bool,[]⟩
 | 177,5=>some ⟨[24],.bool,[]⟩
 | 60,5=>some ⟨[20],.bool,[]⟩
 | 60,29=>some ⟨[66],.bool,[]⟩
 | 287,7=>some ⟨[31],.bool,[]⟩
 | 281,3=>some ⟨[4],.bool,[]⟩
 | 162,3=>some ⟨[4],.bool,[]⟩
 | 161,9=>some ⟨[25],.bool,[]⟩
 | 379,17=>some ⟨[72],.bool,[]⟩
 | 201,15=>some ⟨[36],.bool,[]⟩
 | 73,3=>some ⟨[16],.bool,[]⟩
 | 344,15=>some ⟨[28],.bool,[]⟩
 | 347,5=>some ⟨[18],.bool,[]⟩
 | 227,27=>some ⟨[52],.bool,[]⟩
 | 88,17=>some ⟨[39],.bool,[]⟩
 | 109,3=>some ⟨[16],.bool,[]⟩
 | 109,15=>some ⟨[68],.bool,[]⟩
 | 329,3=>some ⟨[15],.bool,[]⟩
 | 329,23=>some ⟨[58],.bool,[]⟩
 | 212,3=>some ⟨[24],.bool,[]⟩
 | 212,11=>some ⟨[2],.bool,[]⟩
 | 331,17=>some ⟨[44],.bool,[]⟩
 | 27,5=>some ⟨[21],.bool,[]⟩
 | 332,23=>some ⟨[61],.bool,[]⟩
 | 213,3=>some ⟨[4],.bool,[]⟩
 | 81,3=>some ⟨[14],.bool,[]⟩
 | 218,5=>some ⟨[17],.bool,[]⟩
 | _,_=>none
abbrev u2l:=zL [0,1,7,8] (.pair s78 (.pair (.clo 289 p5r) t7o)) 0 [] .unit [4] u04
abbrev s0c:=zL [0,1,7,8,9] (.pair s78 (.pair u04 p5q)) 0 [] .unit [4] .bool
abbrev t08:=zL [0,3,9,10,11] (.pair o0t (.pair u04 o2i)) 0 [0,3] (.pair o0t u04) [] .unit
abbrev u9m:=zL [6,25,26,27] (.pair o2x o2i) 2 [6] o2x [] .unit
abbrev r3o:=zL [0,3] p12 0 [0] .str [2] .bool
abbrev s27:=zL [0,5,6,7] (.pair q6h p9p) 0 [0] q6h [2] .bool
abbrev r3p:=zL [1,6,7,8] (.pair q0p p9q) 0 [1] q0p [2] .bool
abbrev t8i:=zL [0,5,6,7] (.pair s4s p7x) 0 [0] s4s [2] .bool
abbrev s93:=zL [1,38,39,40] (.pair r9f p7x) 0 [1] r9f [2] .bool
abbrev s6l:=zL [1,51,52,53] (.pair r9f p5q) 2 [1] r9f [2] .bool
abbrev s6m:=zL [1,91,92,93] (.pair r9f p5q) 4 [1] r9f [2] .bool
abbrev s6w:=zL [0,4] o13 0 [0,4] o13 [] .unit
abbrev s0d:=zL [0,8,9,10] (.pair q6i (.pair p3t t7o)) 0 [0] q6i [] .unit
abbrev s29:=zL [0,8,9,10] (.pair q6i (.pair p5x t7o)) 0 [0] q6i [] .unit
abbrev s6v:=zL [1,4,29,30,31] (.pair q0p (.pair q6i p9q)) 0 [1,4] (.pair q0p q6i) [] .unit
abbrev s26:=zL [1,4,50,51,52] (.pair q0p (.pair q6i p9p)) 2 [1,4] (.pair q0p q6i) [] .unit
abbrev s20:=zL [1,4,29,30,31] (.pair r9f (.pair q6i p7x)) 0 [1,4] (.pair r9f q6i) [] .unit
abbrev t98:=zL [4,56,57,58] (.pair q6i o2i) 2 [4] q6i [] .unit
abbrev t99:=zL [4,56,57,58,67,68,69] (.pair q6i (.pair o0t (.pair u04 (.pair u04 p5q)))) 4 [4,56,57,58] (.pair q6i o2i) [] .unit
abbrev s6p:=zL [0,1,5] o2j 0 [0] p3y [] .unit
abbrev s6q:=zL [0,1,5,6] (.pair p3y (.pair .str t7o)) 2 [0,1,5] o2j [] .unit
abbrev s6o:=zL [0,1,7,8] (.pair .str p9n) 0 [] .unit [4,5,6] o2c
abbrev u34:=zL [0,1,4,5] (.pair t9w (.pair o21 t7o)) 0 [0,1] (.pair t9w o21) [] .unit
abbrev u4f:=zL [0,1,4,5] (.pair t9w (.pair o22 t7o)) 0 [0,1] (.pair t9w o22) [] .unit
abbrev u4g:=zL [0,1,4,5] (.pair t9w (.pair o23 t7o)) 0 [0,1] (.pair t9w o23) [] .unit
abbrev u35:=zL [0,1,4,5] (.pair t9w (.pair (.clo 300 p9o) t7o)) 0 [0,1] (.pair t9w (.clo 300 p9o)) [] .unit
abbrev u36:=zL [0,1,4,5] (.pair t9w (.pair (.clo 301 p9o) t7o)) 0 [0,1] (.pair t9w (.clo 301 p9o)) [] .unit
abbrev u20:=zL [0,1,7,8] (.pair s78 (.pair (.clo 149 (.rbox .str)) t7o)) 0 [] .unit [4] u04
abbrev s28:=zL [3,6,7,8] (.pair r4o p5q) 0 [3] r4o [] .unit
abbrev s22:=zL [5,10,11,12] (.pair u04 p5q) 0 [5] u04 [] .unit
abbrev s98:=zL [0,1,2,7,10,11,12] (.pair s4s (.pair .str (.pair u04 (.pair u04 p7x)))) 0 [7] u04 [] .unit
abbrev s0b:=zL [0,4,7,8,9] (.pair .str (.pair u04 p7x)) 0 [4] u04 [] .unit
abbrev s6u:=zL [0,1,5,12,13,14] (.pair s4s (.pair u04 (.pair (.box q0i) p7x))) 0 [1,5] (.pair u04 (.box q0i)) [] .unit
abbrev s25:=zL [1,8,9,38,39,40] (.pair u04 (.pair (.clo 364 (.rbox p7w)) (.pair q0i (.pair p7w t7o)))) 2 [9] q0i [] .unit
abbrev u3b:=zL [0,1,7,8] (.pair s78 (.pair o15 t7o)) 0 [] .unit [4] u04
abbrev u2y:=zL [0,1,5,6] (.pair r4o (.pair o15 t7o)) 0 [0,5] o0v [] .unit
abbrev s6s:=zL [1,9,10,11] (.pair q6h p9q) 0 [] .unit [4] .bool
abbrev s6t:=zL [1,6,9,10,11,15,16,17] (.pair q6h (.pair p9a (.pair q3l (.pair u04 (.pair u04 p9p))))) 2 [1,9,10,11] (.pair q6h p9q) [4] .bool
abbrev u3m:=zL [0,1,7,8] (.pair s78 (.pair (.clo 386 p5r) t7o)) 0 [] .unit [4] u04
abbrev s0a:LoopA:=⟨⟨[2,4,6,7,8,9,10,30,31,32],(.pair .str (.pair q0p (.pair s8d (.pair s8d (.pair q8n (.pair r4o (.pair r4o (.pair .skip t7o)))))))),[(30,7,2,u0a)]⟩,0,⟨[4,6,7,8,9,10],(.pair q0p (.pair s8d (.pair s8d (.pair q8n (.pair r4o (.tr true u0a)))))),[]⟩,⟨[],.unit,[]⟩⟩
abbrev u1y:=zL [0,1,7,8] (.pair s4s (.pair (.clo 255 (.rbox o0s)) t7o)) 0 [] .unit [4] u04
abbrev t7c:=zL [2,7,14,15,16] (.pair u04 (.pair q0i p9p)) 0 [7] q0i [] .unit
abbrev u21:=zL [0,1,7,8] (.pair s78 (.pair (.clo 279 p5r) t7o)) 0 [] .unit [4] u04
abbrev u2q:=zL [0,1,5,6] (.pair r4o (.pair (.clo 279 p5r) t7o)) 0 [0,5] o0v [] .unit
abbrev s6r:LoopA:=⟨⟨[3,4,5,6,46,47,48],(.pair q0p (.pair s8d (.pair s8d (.pair q8n (.pair .skip t7o))))),[(46,5,2,u0a)]⟩,0,⟨[3,4,5,6],o4q,[]⟩,⟨[],.unit,[]⟩⟩
abbrev u2z:=zL [0,1,7,8] (.pair s78 (.pair o18 t7o)) 0 [] .unit [4] u04
abbrev u2p:=zL [0,1,5,6] (.pair r4o (.pair o18 t7o)) 0 [0,5] o0v [] .unit
abbrev t8g:=zL [1,6,22,23,24] (.pair u04 (.pair .str (.pair p5s t7o))) 0 [6] .str [] .unit
abbrev t8h:=zL [1,2,3,8,9] (.pair u04 (.pair u04 (.pair p3u (.pair (.own true o1o) u04)))) 0 [8] (.tr true o1o) [6,7] q3k
abbrev s23:=zL [1,2,7,9,10,11] (.pair u04 (.pair p3u (.pair .str (.pair q3i t7o)))) 0 [9,10] o0y [4,5,6] o2h
abbrev s6n:=zL [2,4,13,14,15] (.pair s8d (.pair s8d (.pair p9r t7o))) 0 [2,4] o0w [2,3] (.pair s8d .bool)
abbrev s94:=zL [1,8,9,10] (.pair p3u (.pair p3t t7o)) 0 [1] p3u [2] .bool
abbrev s95:=zL [1,19,20,21] (.pair p3u (.pair p5s t7o)) 2 [1] p3u [2] .bool
abbrev t09:=zL [0,1,12,13] (.pair q3l p9q) 0 [] .unit [4] .bool
abbrev s97:=zL [3,6,7,8] (.pair q3i p7x) 0 [3] q3i [] .unit
abbrev s96:=zL [0,2,4,7,13,14,15] (.pair s4s (.pair u04 (.pair p9a (.pair p5y (.pair p9r t7o))))) 0 [7] p5y [] .unit
abbrev u6x:=zL [0,3,9,10,11] (.pair o0x (.pair u04 (.pair o0x t7o))) 0 [0,3] (.pair o0x u04) [] .unit
abbrev u6g:=zL [6,25,26,27] (.pair q0i (.pair o0x t7o)) 2 [6] q0i [] .unit
abbrev s24:=zL [2,7,14,15,16] (.pair u04 (.pair o4s (.pair p7w t7o))) 0 [2,7] (.pair u04 o4s) [6] .bool
abbrev u3a:=zL [1,2,15,16,17] (.pair s78 (.pair (.clo 102 .unit) p5q)) 0 [] .unit [6] .bool
abbrev s21:=zL [1,33,34,35] (.pair (.box p7v) p5q) 0 [] .unit [2] .bool
abbrev s3c:=zL [0,1,5] p9q 0 [1] u04 [4] u04
abbrev s3d:=zL [0,1,5] p9p 0 [1] u04 [4] u04
abbrev r0d:=zL [0,1,5] p5q 0 [1] u04 [4] u04
abbrev t8k:=zL [0,1,5] p7x 0 [1] u04 [4] u04
abbrev s0f:=zL [0,1,5] (.pair p3t t7o) 0 [1] u04 [4] u04
abbrev r0c:=zL [0,1,5] (.pair p5s t7o) 0 [1] u04 [4] u04
abbrev s3e:=zL [0,3,4] (.pair q3l (.pair p5y u04)) 0 [3] p5y [] .unit
abbrev s3f:=zL [0,3,4] (.pair q6h (.pair (.own true u2k) u04)) 0 [3] (.own true u2k) [] .unit
abbrev r0g:=zL [0,3,4] (.pair s78 o0v) 0 [3] r4o [] .unit
abbrev t8l:=zL [0,3,4] (.pair s4s o0z) 0 [3] q0i [] .unit
abbrev s0g:=zL [0,3,4] (.pair p3t o0y) 0 [3] q3i [] .unit
abbrev r0f:=zL [0,3,4] (.pair p5s (.pair (.own true q0k) u04)) 0 [3] (.own true q0k) [] .unit
abbrev r0e:=zL [0,3,4] (.pair p5x (.pair p89 u04)) 0 [3] p89 [] .unit
abbrev s3a:=zL [0,1,5] (.pair q3l (.pair q3l u04)) 0 [] .unit [4] .bool
abbrev s3b:=zL [0,1,5] (.pair q6h p87) 0 [] .unit [4] .bool
abbrev r0b:=zL [0,1,5] (.pair s78 o2b) 0 [] .unit [4] .bool
abbrev t8j:=zL [0,1,5] (.pair s4s p85) 0 [] .unit [4] .bool
abbrev s0e:=zL [0,1,5] (.pair p3t (.pair p3t u04)) 0 [] .unit [4] .bool
abbrev r0a:=zL [0,1,5] (.pair p5s (.pair p5s u04)) 0 [] .unit [4] .bool
abbrev s99:=zL [0,1,5] (.pair p5x (.pair p5x u04)) 0 [] .unit [4] .bool
abbrev s7e:=zL [0,3,4] (.pair s78 o0v) 0 [3] r4o [] .unit
abbrev s3i:=zL [1,5,6] p5q 0 [5] u04 [] .unit
abbrev r3t:=zL [0,1,2,7,8] (.pair s4s (.pair .str p9n)) 0 [7] u04 [] .unit
abbrev s7a:=zL [0,1,5,6] (.pair s4s (.pair u04 o0z)) 0 [1,5] (.pair u04 p7w) [] .unit
abbrev s3n:=zL [1,5,8,9] (.pair u04 (.pair p7w o0z)) 2 [8] q0i [] .unit
abbrev s3o:=zL [1,5,8,9,10,11] (.pair u04 (.pair p7w (.pair q0i p9n))) 4 [1,5,8,9,10] (.pair u04 (.pair p7w (.pair q0i t7o))) [] .unit
abbrev r0l:=zL [2,4,5,6,7] (.pair r9f (.pair s8d (.pair s8d t7o))) 0 [2,4,5,6] (.pair r9f o2z) [] .unit
abbrev r3q:=zL [0,3] p12 0 [0] .str [2] .bool
abbrev s3q:=zL [0,3] p87 0 [0] q6h [2] .bool
abbrev r3s:=zL [1,3] (.pair q0p u04) 0 [1] q0p [2] .bool
abbrev t8p:=zL [0,3] p85 0 [0] s4s [2] .bool
abbrev r0h:=zL [1,3] (.pair r9f u04) 0 [1] r9f [2] .bool
abbrev s6x:=zL [1,4,5] (.pair r9f (.pair p89 u04)) 2 [1,4] (.pair r9f p89) [2] .bool
abbrev s6y:=zL [1,4,7] (.pair r9f (.pair p89 u04)) 4 [1,4] (.pair r9f (.tr true o0q)) [2] .bool
abbrev s6z:=zL [1,4,9] o4t 6 [] .unit [2] .bool
abbrev s60:=zL [1,4,9,10] (.pair r9f (.pair (.tr true o0q) t7o)) 8 [1,4,9] o4t [2] .bool
abbrev r0m:=zL [0,3] o13 0 [0,3] o13 [] .unit
abbrev s64:=zL [0,1,7,8,9] (.pair .str (.pair u04 p9n)) 0 [] .unit [4,5,6] o2c
abbrev s63:=zL [4,7,8,9,10] o4r 0 [4,7,8] (.pair q8n (.pair t9w q8n)) [] .unit
abbrev s3k:=zL [4,7,8,12,13] o4r 2 [4,7,8] (.pair q8n (.pair t9w q8n)) [] .unit
abbrev t7f:=zL [0,1,5,6,7] (.pair t9w (.pair u04 (.pair r4o t7o))) 0 [0,5] (.pair t9w r4o) [0,4] (.pair t9w r4o)
abbrev s3j:=zL [4,7,8,9,10] (.pair s8d (.pair t9w (.pair s8d t7o))) 0 [4,7,8] (.pair s8d (.pair t9w s8d)) [] .unit
abbrev s66:=zL [0,1,5] o2j 0 [0] p3y [] .unit
abbrev s67:=zL [0,1,5,6] (.pair p3y (.pair .str t7o)) 2 [0,1,5] o2j [] .unit
abbrev s7b:=zL [1,4,5] (.pair q0p p12) 0 [1,4] (.pair q0p .str) [] .unit
abbrev s3p:=zL [1,4,6] (.pair q0p p12) 2 [1,4] (.pair q0p .str) [] .unit
abbrev s7f:=zL [0,3,4] (.pair s78 p12) 0 [3] .str [] .unit
abbrev s3g:=zL [1,4,5] (.pair r9f p12) 0 [1,4] (.pair r9f .str) [] .unit
abbrev s68:=zL [0,1,5] (.pair q3l p87) 0 [] .unit [4] .bool
abbrev s69:=zL [0,1,5,6] (.pair q3l p9p) 2 [0,1,5] (.pair q3l p87) [4] .bool
abbrev r3r:=zL [1,2,5] (.pair s78 (.pair q0p u04)) 0 [] .unit [4] .bool
abbrev t7d:=zL [1,2,7,8] (.pair q6h (.pair u04 o0z)) 0 [7] q0i [] .unit
abbrev t7e:=zL [1,2,7,8,9,10,11] o4n 2 [1,2,7,8,9,10,11] o4n [] .unit
abbrev s3m:=zL [2,3,4,5,6,7] (.pair r9f (.pair q0p (.pair s8d (.pair s8d (.pair (.box (.pair u04 (.pair u04 (.pair u04 (.pair u04 (.pair (.tr true r36) (.pair (.tr true u2k) (.pair .bool .str)))))))) u04))))) 0 [3,4,5] (.pair q0p o0w) [] .unit
abbrev s65:=zL [1,2,5] (.pair .str (.pair r9f u04)) 0 [] .unit [4] u04
abbrev s0j:=zL [2,3,4,6,7,8,9] (.pair .str (.pair r9f (.pair q0p (.pair s8d (.pair s8d (.pair q8n u04)))))) 0 [2,3,4,6,7,8] (.pair .str (.pair r9f o4q)) [] .unit
abbrev t8m:=zL [2,3,4,6,7,10] (.pair .str (.pair r9f (.pair q0p o2z))) 2 [4,6,7] (.pair q0p o0w) [] .unit
abbrev s61:=zL [1,2,4,5,6] (.pair .str (.pair r9f o2z)) 0 [4,5] o0w [] .unit
abbrev t8n:=zL [1,2,6] (.pair u04 (.pair p3u u04)) 0 [1,2] (.pair u04 p3u) [4,5] q3k
abbrev t8o:=zL [1,2,3,8,9] (.pair u04 (.pair u04 (.pair p3u p12))) 0 [8] .str [6,7] q3k
abbrev s0k:=zL [1,2,7,8,10,11,12] (.pair u04 (.pair p3u (.pair q3i (.pair .str (.pair q3i t7o))))) 0 [10,11] o0y [4,5,6] o2h
abbrev s62:=zL [2,4,5,6] (.pair s8d (.pair s8d (.pair p9r u04))) 0 [2,4] o0w [2,3] (.pair s8d .bool)
abbrev s3h:=zL [1,3] (.pair (.box p7v) u04) 0 [] .unit [2] .bool
abbrev s0h:=zL [1,3,4,5] o4p 2 [1,3,4] (.pair (.box p7v) (.pair u04 q0p)) [2] .bool
abbrev s0i:=zL [1,3,4,6] o4p 4 [1,3] (.pair (.box p7v) u04) [2] .bool
abbrev r0i:=zL [1,3] (.pair p3u u04) 0 [1] p3u [2] .bool
abbrev r0j:=zL [1,4] (.pair p3u u04) 2 [] .unit [2] .bool
abbrev s3t:=zL [0,1,5] (.pair s78 o2b) 0 [] .unit [4] .bool
abbrev s7c:=zL [0,3,5,6] (.pair s4s (.pair p9a o0y)) 0 [5] q3i [] .unit
abbrev s7d:=zL [0,3,5,6,7,8,9] o4m 2 [0,3,5,6,7,8] (.pair s4s (.pair p9a (.pair p9r (.pair u04 (.pair .str q3i))))) [] .unit
abbrev s3r:=zL [0,3,5,6,7,8,10] o4m 4 [0,3,6,8] (.pair s4s (.pair p9a (.pair u04 q3i))) [] .unit
abbrev r0k:=zL [0,2,7,8,9] (.pair s4s (.pair u04 (.pair p5y (.pair p9r u04)))) 0 [7] p5y [] .unit
abbrev s3s:=zL [0,1,5] (.pair q3l (.pair q3l u04)) 0 [] .unit [4] .bool
abbrev s3l:=zL [0,1,2,7,8] (.pair s4s (.pair s4s (.pair u04 (.pair p9a u04)))) 0 [] .unit [6] .bool
def o0c:Nat→Nat→Option LoopA
 | 10005,2=>some u2l
 | 163,2=>some s0c
 | 164,3=>some t08
 | 164,11=>some u9m
 | 142,2=>some r3o
 | 291,2=>some s27
 | 165,2=>some r3p
 | 204,2=>some t8i
 | 76,4=>some s93
 | 76,10=>some s6l
 | 76,16=>some s6m
 | 312,4=>some s6w
 | 167,1=>some s0d
 | 184,1=>some s29
 | 169,6=>some s6v
 | 169,12=>some s26
 | 62,6=>some s20
 | 62,13=>some t98
 | 62,17=>some t99
 | 390,2=>some s6p
 | 390,6=>some s6q
 | 391,5=>some s6o
 | 10015,2=>some u34
 | 10017,2=>some u4f
 | 10018,2=>some u4g
 | 10016,2=>some u35
 | 10019,2=>some u36
 | 10012,2=>some u20
 | 271,3=>some s28
 | 235,3=>some s22
 | 363,3=>some s98
 | 364,3=>some s0b
 | 238,3=>some s6u
 | 238,11=>some s25
 | 10002,2=>some u3b
 | 10001,5=>some u2y
 | 252,2=>some s6s
 | 252,5=>some s6t
 | 10009,2=>some u3m
 | 146,6=>some s0a
 | 10006,2=>some u1y
 | 120,3=>some t7c
 | 10011,2=>some u21
 | 10010,5=>some u2q
 | 150,9=>some s6r
 | 10014,2=>some u2z
 | 10013,5=>some u2p
 | 426,5=>some t8g
 | 358,5=>some t8h
 | 232,7=>some s23
 | 18,3=>some s6n
 | 233,2=>some s94
 | 233,8=>some s95
 | 121,4=>some t09
 | 259,3=>some s97
 | 123,3=>some s96
 | 240,3=>some u6x
 | 240,11=>some u6g
 | 103,3=>some s24
 | 10000,4=>some u3a
 | 55,4=>some s21
 | 376,5=>some s3c
 | 377,5=>some s3d
 | 129,5=>some r0d
 | 400,5=>some t8k
 | 131,5=>some s0f
 | 328,5=>some r0c
 | 380,3=>some s3e
 | 381,3=>some s3f
 | 133,3=>some r0g
 | 402,3=>some t8l
 | 135,3=>some s0g
 | 334,3=>some r0f
 | 134,3=>some r0e
 | 382,4=>some s3a
 | 383,4=>some s3b
 | 136,4=>some r0b
 | 404,4=>some t8j
 | 138,4=>some s0e
 | 336,4=>some r0a
 | 137,4=>some s99
 | 241,3=>some s7e
 | 105,3=>some s3i
 | 113,3=>some r3t
 | 107,3=>some s7a
 | 107,10=>some s3n
 | 107,14=>some s3o
 | 21,5=>some r0l
 | 191,2=>some r3q
 | 243,2=>some s3q
 | 189,4=>some r3s
 | 197,2=>some t8p
 | 69,4=>some r0h
 | 69,10=>some s6x
 | 69,17=>some s6y
 | 69,24=>some s6z
 | 69,27=>some s60
 | 313,2=>some r0m
 | 315,6=>some s64
 | 182,8=>some s63
 | 182,15=>some s3k
 | 187,4=>some t7f
 | 65,6=>some s3j
 | 392,2=>some s66
 | 392,6=>some s67
 | 306,5=>some s7b
 | 306,10=>some s3p
 | 314,3=>some s7f
 | 185,5=>some s3g
 | 288,2=>some s68
 | 288,5=>some s69
 | 161,2=>some r3r
 | 379,3=>some t7d
 | 379,8=>some t7e
 | 318,12=>some s3m
 | 319,2=>some s65
 | 320,8=>some s0j
 | 320,14=>some t8m
 | 321,4=>some s61
 | 417,4=>some t8n
 | 344,5=>some t8o
 | 227,10=>some s0k
 | 88,4=>some s62
 | 109,4=>some s3h
 | 109,10=>some s0h
 | 109,15=>some s0i
 | 329,4=>some r0i
 | 329,9=>some r0j
 | 331,4=>some s3t
 | 153,3=>some s7c
 | 153,9=>some s7d
 | 153,15=>some s3r
 | 46,4=>some r0k
 | 265,4=>some s3s
 | 332,5=>some s3l
 | _,_=>none
def o44:Nat→Nat
 | 10000=>101
 | 10001=>236
 | 10002=>148
 | 10003=>127
 | 10004=>261
 | 10005=>148
 | 10006=>254
 | 10007=>127
 | 10008=>261
 | 10009=>148
 | 10010=>236
 | 10011=>148
 | 10012=>148
 | 10013=>236
 | 10014=>148
 | 10015=>298
 | 10016=>298
 | 10017=>298
 | 10018=>298
 | 10019=>298
 | f=>f
def o0i:Nat→List Nat→Nat
 | 101, [102] =>10000
 | 236, [237] =>10001
 | 148, [237] =>10002
 | 127, [289] =>10003
 | 261, [289] =>10004
 | 148, [289] =>10005
 | 254, [255] =>10006
 | 127, [386] =>10007
 | 261, [386] =>10008
 | 148, [386] =>10009
 | 236, [279] =>10010
 | 148, [279] =>10011
 | 148, [149] =>10012
 | 236, [280] =>10013
 | 148, [280] =>10014
 | 298, [299] =>10015
 | 298, [300] =>10016
 | 298, [302] =>10017
 | 298, [303] =>10018
 | 298, [301] =>10019
 | f,_=>f
def p46:(f:Nat)→Option ((p8h f).ins.den→Option (p8h f).out.den)
 | 257=>some (y2q u0d)
 | 325=>some (y7a)
 | 326=>some (y0m)
 | _=>none
def p7j:Plan:= {sig:=p8h,join:=p98,loop:=o0c,fn:=o44,pick:=o0i,prim:=p46,gd:=y8a}
def A:Ann:=ann o4k p7j
set_option maxRecDepth 100000
abbrev r61:Type:=(List u0a.den)
abbrev s5s:Type:=(List u0d.den)
abbrev s13:Type:=(ByteArray×Bool)
abbrev r4l:Type:=(List ByteArray)
abbrev s4t:Type:=(Unit⊕Bool)
abbrev p0t:Type:=(ByteArray×Int)
abbrev p11:Type:=(List r36.den)
abbrev p0z:Type:=(ByteArray×ByteArray)
abbrev r4n:Type:=(List Int)
abbrev q6g:Type:=(List u2k.den)
abbrev p2y:Type:=(Int×Int)
abbrev p00:Type:=(Unit⊕Int)
abbrev p2z:Type:=(List q0k.den)
abbrev p8z:Type:=(Int×Bool)
abbrev r4m:Type:=(ByteArray×p8z)
abbrev p20:Type:=(Int⊕Unit)
abbrev p5w:Type:=(Int×ByteArray)
abbrev p3w:Type:=(s5s⊕Unit)
abbrev p7n:Type:=(ByteArray×s13)
abbrev p3x:Type:=(Int⊕Int)
abbrev o1p:Type:=((r4l×Int)⊕(r4l×p8z))
abbrev p7o:Type:=(r61⊕Unit)
abbrev p7p:Type:=(r4n⊕Unit)
abbrev o1q:Type:=(Int×(ByteArray×p2y))
abbrev p7q:Type:=(Z75⊕Bool)
abbrev p7r:Type:=(Int×r4n)
abbrev p7s:Type:=(Int×p0t)
abbrev p7t:Type:=(Int×p8z)
abbrev p7u:Type:=(s5s×Int)
abbrev o1r:Type:=((Int×s5s)⊕Unit)
abbrev o1s:Type:=(r4n×(r4n×Int))
abbrev p9g:Type:=(p5t⊕Unit)
abbrev p9h:Type:=(t7p⊕Bool)
abbrev p9i:Type:=(r4l⊕Unit)
abbrev p9j:Type:=(p11⊕Unit)
abbrev p9k:Type:=(p11×p11)
abbrev o1t:Type:=(ByteArray⊕Bool)
abbrev o1u:Type:=(ByteArray⊕Unit)
abbrev p9l:Type:=(Int×p2y)
abbrev zLv:=y5x Tryz.prog A
abbrev zK (f:Nat) (x:(A.sig f).ins.den):=zLv.call f x
theorem zC (f:Nat) {fn:Func} {X:(A.sig f).ins.den→Option (A.sig f).out.den} (hp:A.prim f=none) (hf:Tryz.prog.funcs[A.fn f]? =some fn) (hb:z7s A zLv lpW f fn=X):zK f=X:=funext (y7p hp hf (congrFun hb))
theorem zW (l:LoopA) (f:Nat) (fn:Func) (r n:Nat) {S:(l.head.sh.den→Option (l.out.sh.den⊕l.ret.sh.den))→l.head.sh.den→Option (l.out.sh.den⊕l.ret.sh.den)} (x:l.head.sh.den) (h:S=z7n A zLv lpW f (y7w fn r) l n):lpW _ _ S x=S (lpW _ _ S) x:=y7x h x
def t4n(x:Z88):Option Bool:=zK 125 x
def r44 (x:Z88):Option Bool:=(some (decide (x.2.1=3)))
theorem r56:t4n=r44:=zC 125 rfl Tryz.func125 (by kernel_rfl)
def t4l(x:Z36):Option Bool:=zK 289 x
def r42 (x:Z36):Option Bool:=(some (decide (x.1.1=x.2.1)))
theorem r55:t4l=r42:=zC 289 rfl Tryz.func289 (by kernel_rfl)
def u22(x:Z62):Option Int:=zK 10005 x
def u2j(g:Z46→Option p00)(x:Z46):Option p00:=(bif (decide (x.2.2.2<x.2.2.1)) then(bif (y4q x.2.2.2 x.1.length) then((t4l ((rdL u0a x.1 (x.2.2.2).toNat),x.2.1)).bind fun y1=>(bif y1 then(some (.inr x.2.2.2)) else(g (x.1,(x.2.1,(x.2.2.1,(IntKind.i64.wrap (x.2.2.2+1)))))))) else none) else(some (.inl ())))
def u0r:=lpW _ _ u2j
theorem u5t x:u0r x=u2j u0r x:=zW u2l 10005 Tryz.f148 2 19 x (by kernel_rfl)
def u2x (x:Z62):Option Int:=((u0r (x.1,(x.2,((x.1.length:Int),0)))).bind fun r2=>match r2 with | .inl o3=>(some (-1:Int)) | .inr z4=>(some z4))
theorem u6r:u22=u2x:=zC 10005 rfl Tryz.func148 (by kernel_rfl)
def u2h(x:Z62):Option Bool:=zK 10004 x
def u2d (x:Z62):Option Bool:=((u22 x).bind fun y1=>(some (decide (y1≥0))))
theorem u5s:u2h=u2d:=zC 10004 rfl Tryz.func261 (by kernel_rfl)
def u4v(x:Z62):Option Bool:=zK 10003 x
def u83 (x:Z62):Option Bool:=((u2h x).bind fun y1=>(some y1))
theorem t7q:u4v=u83:=zC 10003 rfl Tryz.func127 (by kernel_rfl)
def u8e(x:p5t):Option Bool:=zK 163 x
def u8r(g:Z85→Option s4t)(x:Z85):Option s4t:=(bif (decide (x.2.2.2.2<x.2.2.2.1)) then(bif (y4q x.2.2.2.2 x.2.2.1.length) then(bif (decide ((rdL u0a x.2.2.1 (x.2.2.2.2).toNat).1≥x.2.1)) then(some (.inr false)) else(bif (decide (0≤(0:Int))&&decide ((0:Int)≤x.2.2.2.2)&&decide (x.2.2.2.2≤(x.1.length:Int))) then((u4v (((x.1.take (x.2.2.2.2).toNat).drop ((0:Int)).toNat),(rdL u0a x.2.2.1 (x.2.2.2.2).toNat))).bind fun y1=>(bif y1 then(some (.inr false)) else(g (x.1,(x.2.1,(x.2.2.1,(x.2.2.2.1,(IntKind.i64.wrap (x.2.2.2.2+1))))))))) else none)) else none) else(some (.inl ())))
def u8z:=lpW _ _ u8r
theorem s06 x:u8z x=u8r u8z x:=zW s0c 163 Tryz.f163 2 26 x (by kernel_rfl)
def s56 (x:p5t):Option Bool:=((u8z (x.1,(x.2,(x.1,((x.1.length:Int),0))))).bind fun r2=>match r2 with | .inl o3=>(some true) | .inr z4=>(some z4))
theorem r9y:u8e=s56:=zC 163 rfl Tryz.func163 (by kernel_rfl)
def u8n(x:(Unit×Int)):Option r61:=zK 290 x
def t42 (x:(Unit×Int)):Option r61:=(bif (decide (x.2<0)) then none else(bif (decide ((IntKind.i64.wrap (x.2 - (IntKind.i64.wrap ((0:Int) - (0:Int))))) >0)) then(bif (decide (0≤(0:Int))&&decide ((0:Int)≤(0:Int))&&decide ((0:Int)≤0)) then(bif (decide (1≤(IntKind.i64.wrap (x.2 - (IntKind.i64.wrap ((0:Int) - (0:Int))))))&&decide ((IntKind.i64.wrap (x.2 - (IntKind.i64.wrap ((0:Int) - (0:Int)))))≤1099511627776)) then(bif (decide (0≤(0:Int))&&decide ((0:Int)≤(0:Int))&&decide ((0:Int)≤((List.replicate ((IntKind.i64.wrap (x.2 - (IntKind.i64.wrap ((0:Int) - (0:Int)))))).toNat (u0a).zero).length:Int))) then(some ((List.replicate ((IntKind.i64.wrap (x.2 - (IntKind.i64.wrap ((0:Int) - (0:Int)))))).toNat (u0a).zero).take (((0:Int)).toNat - ((0:Int)).toNat))) else none) else none) else none) else(some ([] :List u0a.den))))
theorem s8c:u8n=t42:=zC 290 rfl Tryz.func290 (by kernel_rfl)
def u2r(x:p7c):Option r61:=zK 164 x
def u3q(g:Z77→Option (o30⊕Unit))(x:Z77):Option (o30⊕Unit):=(bif (decide (x.2.2.2.2<x.2.2.2.1)) then(bif (y4q x.2.2.2.2 x.2.2.1.length) then(bif (decide ((IntKind.i64.wrap (x.2.1+((rdL (Ty.sl u0a) x.2.2.1 (x.2.2.2.2).toNat).length:Int)))<0)) then none else(g (x.1,((IntKind.i64.wrap (x.2.1+((rdL (Ty.sl u0a) x.2.2.1 (x.2.2.2.2).toNat).length:Int))),(x.2.2.1,(x.2.2.2.1,(IntKind.i64.wrap (x.2.2.2.2+1)))))))) else none) else(some (.inl (x.1,x.2.1))))
def u18:=lpW _ _ u3q
theorem t1c x:u18 x=u3q u18 x:=zW t08 164 Tryz.f164 3 36 x (by kernel_rfl)
def u25(g:Z86→Option p7o)(x:Z86):Option p7o:=(bif (decide (x.2.2.2<x.2.2.1)) then(bif (y4q x.2.2.2 x.2.1.length) then(bif (Nat.ble (x.1.length+(rdL (Ty.sl u0a) x.2.1 (x.2.2.2).toNat).length) z7w) then(g ((x.1++(rdL (Ty.sl u0a) x.2.1 (x.2.2.2).toNat)),(x.2.1,(x.2.2.1,(IntKind.i64.wrap (x.2.2.2+1)))))) else none) else none) else(some (.inl x.1)))
def u11:=lpW _ _ u25
theorem u9q x:u11 x=u25 u11 x:=zW u9m 164 Tryz.f164 11 36 x (by kernel_rfl)
def t3l (x:p7c):Option r61:=((u18 (x,(0,(x,((x.length:Int),0))))).bind fun r1=>match r1 with | .inl o2=>((u8n ((),o2.2)).bind fun y3=>((u11 (y3,(o2.1,((o2.1.length:Int),0)))).bind fun r4=>match r4 with | .inl o5=>(some o5) | .inr z6=>none)) | .inr z7=>none)
theorem s2x:u2r=t3l:=zC 164 rfl Tryz.func164 (by kernel_rfl)
def u08(x:p9l):Option Bool:=zK 205 x
def r47 (x:p9l):Option Bool:=(((bif (decide (x.1≥x.2.1)) then(some (decide (x.1≤x.2.2))) else(some false)):Option Bool).bind fun j1=>(some j1))
theorem q7e:u08=r47:=zC 205 rfl Tryz.func205 (by kernel_rfl)
def u6y(x:ByteArray):Option Bool:=zK 142 x
def t5j(g:p0t→Option o1t)(x:p0t):Option o1t:=(bif (decide (x.2<(x.1.size:Int))) then(((bif (y4q x.2 x.1.size) then(bif (decide (((x.1.data.toList.getD (x.2).toNat 0).toNat:Int)<(97:Int))) then(some true) else(bif (y4q x.2 x.1.size) then(some (decide (((x.1.data.toList.getD (x.2).toNat 0).toNat:Int) >(122:Int)))) else none)) else none):Option Bool).bind fun j1=>(bif j1 then(some (.inr false)) else(g (x.1,(IntKind.i64.wrap (x.2+1)))))) else(some (.inl x.1)))
def t5p:=lpW _ _ t5j
theorem r3z x:t5p x=t5j t5p x:=zW r3o 142 Tryz.f142 2 23 x (by kernel_rfl)
def r8f (x:ByteArray):Option Bool:=((t5p (x,0)).bind fun r2=>match r2 with | .inl o3=>((u08 ((o3.size:Int),(1,3))).bind fun y4=>(some y4)) | .inr z5=>(some z5))
theorem q9k:u6y=r8f:=zC 142 rfl Tryz.func142 (by kernel_rfl)
def s1g(x:p0z):Option Bool:=zK 208 x
def r17 (x:p0z):Option Bool:=((((u6y x.1).bind fun y1=>(bif y1 then((u6y x.2).bind fun y2=>(bif y2 then(some (y3c x.1 x.2 || z7o x.1 x.2)) else(some false))) else(some false))):Option Bool).bind fun j3=>(some j3))
theorem q3z:s1g=r17:=zC 208 rfl Tryz.func208 (by kernel_rfl)
def s1l(x:p7n):Option Bool:=zK 157 x
def r2i (x:p7n):Option Bool:=((((u6y x.1).bind fun y1=>(bif y1 then(bif (decide ((x.2.1.size:Int)≤(12:Int))) then(bif (!x.2.2) then(some true) else(some (z7o x.2.1 (⟨#[]⟩:ByteArray)))) else(some false)) else(some false))):Option Bool).bind fun j2=>(some j2))
theorem q39:s1l=r2i:=zC 157 rfl Tryz.func157 (by kernel_rfl)
def t8z(x:q6g):Option Bool:=zK 291 x
def u9z(g:o3t→Option (q6g⊕Bool))(x:o3t):Option (q6g⊕Bool):=(bif (decide (x.2.2.2<x.2.2.1)) then(bif (y4q x.2.2.2 x.2.1.length) then((((s1l (rdL u2k x.2.1 (x.2.2.2).toNat)).bind fun y1=>(bif (!y1) then(some true) else(bif (decide (x.2.2.2 >0)) then(bif (y4q (IntKind.i64.wrap (x.2.2.2 - 1)) x.1.length) then(some (!y3c (rdL u2k x.1 ((IntKind.i64.wrap (x.2.2.2 - 1))).toNat).1 (rdL u2k x.2.1 (x.2.2.2).toNat).1)) else none) else(some false)))):Option Bool).bind fun j2=>(bif j2 then(some (.inr false)) else(g (x.1,(x.2.1,(x.2.2.1,(IntKind.i64.wrap (x.2.2.2+1)))))))) else none) else(some (.inl x.1)))
def t0l:=lpW _ _ u9z
theorem s4b x:t0l x=u9z t0l x:=zW s27 291 Tryz.f291 2 34 x (by kernel_rfl)
def s82 (x:q6g):Option Bool:=((t0l (x,(x,((x.length:Int),0)))).bind fun r3=>match r3 with | .inl o4=>(some (decide ((o4.length:Int)≤(8:Int)))) | .inr z5=>(some z5))
theorem q1n:t8z=s82:=zC 291 rfl Tryz.func291 (by kernel_rfl)
def u5p(x:Z88):Option Bool:=zK 165 x
def t5k(g:Z67→Option (Z88⊕Bool))(x:Z67):Option (Z88⊕Bool):=(bif (decide (x.2.2.2<x.2.2.1)) then(bif (y4q x.2.2.2 x.2.1.length) then((s1g (rdL r36 x.2.1 (x.2.2.2).toNat)).bind fun y1=>(bif (!y1) then(some (.inr false)) else(g (x.1,(x.2.1,(x.2.2.1,(IntKind.i64.wrap (x.2.2.2+1)))))))) else none) else(some (.inl x.1)))
def t5q:=lpW _ _ t5k
theorem r30 x:t5q x=t5k t5q x:=zW r3p 165 Tryz.f165 2 93 x (by kernel_rfl)
def r8j (x:Z88):Option Bool:=((t5q (x,(x.2.2.2.2.1,((x.2.2.2.2.1.length:Int),0)))).bind fun r2=>match r2 with | .inl o3=>((((u08 (o3.1,(1,9999))).bind fun y4=>(bif (!y4) then(some true) else((u08 (o3.2.1,(1,3))).bind fun y5=>(bif (!y5) then(some true) else((u08 (o3.2.2.1,(0,9999))).bind fun y6=>(bif (!y6) then(some true) else(bif (decide ((o3.2.2.2.2.1.length:Int) >(8:Int))) then(some true) else((t8z o3.2.2.2.2.2.1).bind fun y7=>(bif (!y7) then(some true) else(bif o3.2.2.2.2.2.2.1 then(some (decide (o3.2.1=1))) else(some false))))))))))):Option Bool).bind fun j8=>(bif j8 then(some false) else(((bif (decide (o3.2.1=3)) then((u08 (o3.2.2.2.1,((IntKind.i64.wrap (o3.2.2.1+1)),9999))).bind fun y9=>(bif (!y9) then(some true) else(bif (!decide (o3.2.1=3)) then(some (!decide (o3.2.2.2.1=0))) else(some false)))) else(bif (!decide (o3.2.1=3)) then(some (!decide (o3.2.2.2.1=0))) else(some false))):Option Bool).bind fun j10=>(bif j10 then(some false) else(((bif (decide (o3.2.1=2)) then((u6y o3.2.2.2.2.2.2.2).bind fun y11=>(bif y11 then(some true) else(bif (!decide (o3.2.1=2)) then(some (z7o o3.2.2.2.2.2.2.2 (⟨#[]⟩:ByteArray))) else(some false)))) else(bif (!decide (o3.2.1=2)) then(some (z7o o3.2.2.2.2.2.2.2 (⟨#[]⟩:ByteArray))) else(some false))):Option Bool).bind fun j12=>(some j12)))))) | .inr z13=>(some z13))
theorem q9o:u5p=r8j:=zC 165 rfl Tryz.func165 (by kernel_rfl)
def t54(x:Z88):Option Bool:=zK 195 x
def q3o (x:Z88):Option Bool:=(some (decide (x.2.1=2)))
theorem q4c:t54=q3o:=zC 195 rfl Tryz.func195 (by kernel_rfl)
def u85(x:ByteArray):Option Bool:=zK 433 x
def t91 (x:ByteArray):Option Bool:=(some (!z7o x x))
theorem r53:u85=t91:=zC 433 rfl Tryz.func433 (by kernel_rfl)
def t1h(x:p0z):Option Int:=zK 372 x
def t67 (x:p0z):Option Int:=((u85 x.1).bind fun y1=>((u85 x.2).bind fun y2=>(bif y1 then(bif y2 then(some (0:Int)) else(some (-1:Int))) else(bif y2 then(some (1:Int)) else(bif (y3c x.1 x.2) then(some (-1:Int)) else(bif (!(y3c x.1 x.2 || z7o x.1 x.2)) then(some (1:Int)) else(some (0:Int))))))))
theorem r1m:t1h=t67:=zC 372 rfl Tryz.func372 (by kernel_rfl)
def t4h(x:Int):Option Bool:=zK 434 x
def s8q (x:Int):Option Bool:=(some (!decide (x=x)))
theorem q1a:t4h=s8q:=zC 434 rfl Tryz.func434 (by kernel_rfl)
def t47(x:p2y):Option Int:=zK 373 x
def s2b (x:p2y):Option Int:=((t4h x.1).bind fun y1=>((t4h x.2).bind fun y2=>(bif y1 then(bif y2 then(some (0:Int)) else(some (-1:Int))) else(bif y2 then(some (1:Int)) else(bif (decide (x.1<x.2)) then(some (-1:Int)) else(bif (decide (x.1 >x.2)) then(some (1:Int)) else(some (0:Int))))))))
theorem r69:t47=s2b:=zC 373 rfl Tryz.func373 (by kernel_rfl)
def u37(x:Z96):Option Int:=zK 256 x
def u9k (x:Z96):Option Int:=((t1h (x.1.1,x.2.1)).bind fun y1=>(bif (!decide (y1=0)) then(some y1) else((t47 (x.1.2.2.2,x.2.2.2.2)).bind fun y2=>(some y2))))
theorem t6n:u37=u9k:=zC 256 rfl Tryz.func256 (by kernel_rfl)
def t5a(x:s5s):Option Bool:=zK 204 x
def u66(g:o05→Option (s5s⊕Bool))(x:o05):Option (s5s⊕Bool):=(bif (decide (x.2.2.2<x.2.2.1)) then(bif (y4q x.2.2.2 x.2.1.length) then((((u6y (rdL u0d x.2.1 (x.2.2.2).toNat).1).bind fun y1=>(bif (!y1) then(some true) else(bif (decide (((rdL u0d x.2.1 (x.2.2.2).toNat).2.1.size:Int) >(12:Int))) then(some true) else(bif (rdL u0d x.2.1 (x.2.2.2).toNat).2.2.1 then(bif (!z7o (rdL u0d x.2.1 (x.2.2.2).toNat).2.1 (⟨#[]⟩:ByteArray)) then(some true) else((u08 ((rdL u0d x.2.1 (x.2.2.2).toNat).2.2.2,(1,9999))).bind fun y2=>(bif (!y2) then(some true) else(bif (decide (x.2.2.2 >0)) then(bif (y4q (IntKind.i64.wrap (x.2.2.2 - 1)) x.1.length) then((u37 ((rdL u0d x.1 ((IntKind.i64.wrap (x.2.2.2 - 1))).toNat),(rdL u0d x.2.1 (x.2.2.2).toNat))).bind fun y3=>(some (decide (y3≥0)))) else none) else(some false))))) else((u08 ((rdL u0d x.2.1 (x.2.2.2).toNat).2.2.2,(1,9999))).bind fun y4=>(bif (!y4) then(some true) else(bif (decide (x.2.2.2 >0)) then(bif (y4q (IntKind.i64.wrap (x.2.2.2 - 1)) x.1.length) then((u37 ((rdL u0d x.1 ((IntKind.i64.wrap (x.2.2.2 - 1))).toNat),(rdL u0d x.2.1 (x.2.2.2).toNat))).bind fun y5=>(some (decide (y5≥0)))) else none) else(some false)))))))):Option Bool).bind fun j6=>(bif j6 then(some (.inr false)) else(g (x.1,(x.2.1,(x.2.2.1,(IntKind.i64.wrap (x.2.2.2+1)))))))) else none) else(some (.inl x.1)))
def u7d:=lpW _ _ u66
theorem t9r x:u7d x=u66 u7d x:=zW t8i 204 Tryz.f204 2 55 x (by kernel_rfl)
def s2h (x:s5s):Option Bool:=((u7d (x,(x,((x.length:Int),0)))).bind fun r7=>match r7 with | .inl o8=>(some (decide ((o8.length:Int)≤(120:Int)))) | .inr z9=>(some z9))
theorem r7f:t5a=s2h:=zC 204 rfl Tryz.func204 (by kernel_rfl)
def u16(x:Z75):Option Bool:=zK 76 x
def t3q(g:Z45→Option p7q)(x:Z45):Option p7q:=(bif (decide (x.2.2.2<x.2.2.1)) then(bif (y4q x.2.2.2 x.2.1.length) then(bif (decide ((rdL u0d x.2.1 (x.2.2.2).toNat).2.2.2 >x.1.2.2.2.1)) then(some (.inr false)) else(g (x.1,(x.2.1,(x.2.2.1,(IntKind.i64.wrap (x.2.2.2+1))))))) else none) else(some (.inl x.1)))
def u9b:=lpW _ _ t3q
theorem r02 x:u9b x=t3q u9b x:=zW s93 76 Tryz.f76 4 139 x (by kernel_rfl)
def t1y(g:Z37→Option p7q)(x:Z37):Option p7q:=(bif (decide (x.2.2.2<x.2.2.1)) then(bif (y4q x.2.2.2 x.2.1.length) then((((u5p (rdL u0a x.2.1 (x.2.2.2).toNat)).bind fun y7=>(bif (!y7) then(some true) else((t4n (rdL u0a x.2.1 (x.2.2.2).toNat)).bind fun y8=>(bif (!y8) then(some true) else(bif (decide ((rdL u0a x.2.1 (x.2.2.2).toNat).2.2.2.1 >x.1.2.2.2.1)) then(some true) else(bif (decide (x.2.2.2 >0)) then(bif (y4q (IntKind.i64.wrap (x.2.2.2 - 1)) x.1.2.1.length) then(some (decide ((rdL u0a x.1.2.1 ((IntKind.i64.wrap (x.2.2.2 - 1))).toNat).2.2.2.1≥(rdL u0a x.2.1 (x.2.2.2).toNat).2.2.2.1))) else none) else(some false))))))):Option Bool).bind fun j9=>(bif j9 then(some (.inr false)) else(g (x.1,(x.2.1,(x.2.2.1,(IntKind.i64.wrap (x.2.2.2+1)))))))) else none) else(some (.inl x.1)))
def u7u:=lpW _ _ t1y
theorem s7g x:u7u x=t1y u7u x:=zW s6l 76 Tryz.f76 10 139 x (by kernel_rfl)
def t1z(g:Z37→Option p7q)(x:Z37):Option p7q:=(bif (decide (x.2.2.2<x.2.2.1)) then(bif (y4q x.2.2.2 x.2.1.length) then((((u5p (rdL u0a x.2.1 (x.2.2.2).toNat)).bind fun y12=>(bif (!y12) then(some true) else((t54 (rdL u0a x.2.1 (x.2.2.2).toNat)).bind fun y13=>(bif (!y13) then(some true) else(bif (decide ((rdL u0a x.2.1 (x.2.2.2).toNat).2.2.1 >x.1.2.2.2.1)) then(some true) else(bif (decide (x.2.2.2 >0)) then(bif (y4q (IntKind.i64.wrap (x.2.2.2 - 1)) x.1.2.2.1.length) then(some (!y3c (rdL u0a x.1.2.2.1 ((IntKind.i64.wrap (x.2.2.2 - 1))).toNat).2.2.2.2.2.2.2 (rdL u0a x.2.1 (x.2.2.2).toNat).2.2.2.2.2.2.2)) else none) else(some false))))))):Option Bool).bind fun j14=>(bif j14 then(some (.inr false)) else(g (x.1,(x.2.1,(x.2.2.1,(IntKind.i64.wrap (x.2.2.2+1)))))))) else none) else(some (.inl x.1)))
def u7v:=lpW _ _ t1z
theorem s7h x:u7v x=t1z u7v x:=zW s6m 76 Tryz.f76 16 139 x (by kernel_rfl)
def r4u (x:Z75):Option Bool:=((((t5a x.1).bind fun y1=>(bif (!y1) then(some true) else(bif (decide ((x.2.1.length:Int) >(12:Int))) then(some true) else(bif (decide ((x.2.2.1.length:Int) >(3:Int))) then(some true) else((u08 (x.2.2.2.1,(0,9999))).bind fun y2=>(bif (!y2) then(some true) else((u08 (x.2.2.2.2,(1,9999))).bind fun y3=>(some (!y3))))))))):Option Bool).bind fun j4=>(bif j4 then(some false) else((u9b (x,(x.1,((x.1.length:Int),0)))).bind fun r5=>match r5 with | .inl o6=>((u7u (o6,(o6.2.1,((o6.2.1.length:Int),0)))).bind fun r10=>match r10 with | .inl o11=>((u7v (o11,(o11.2.2.1,((o11.2.2.1.length:Int),0)))).bind fun r15=>match r15 with | .inl o16=>((u2r ([o16.2.1,o16.2.2.1] :List r61)).bind fun y17=>((u8e (y17,o16.2.2.2.2)).bind fun y18=>(some y18))) | .inr z19=>(some z19)) | .inr z20=>(some z20)) | .inr z21=>(some z21))))
theorem q63:u16=r4u:=zC 76 rfl Tryz.func76 (by kernel_rfl)
def u8i(x:Int):Option s13:=zK 312 x
def s5u(g:p7r→Option (p7r⊕Unit))(x:p7r):Option (p7r⊕Unit):=(bif (decide (x.1 >127)) then(bif (Nat.ble (x.2.length+([(IntKind.u8.wrap (IntKind.i64.wrap ((Int.tmod x.1 (128:Int))+128)))] :List Int).length) z7w) then(g ((IntKind.i64.wrap (Int.tdiv x.1 (128:Int))),(x.2++([(IntKind.u8.wrap (IntKind.i64.wrap ((Int.tmod x.1 (128:Int))+128)))] :List Int)))) else none) else(some (.inl x)))
def t2u:=lpW _ _ s5u
theorem q0g x:t2u x=s5u t2u x:=zW s6w 312 Tryz.f312 4 25 x (by kernel_rfl)
def r2h (x:Int):Option s13:=((u08 (x,(0,1000000000))).bind fun y1=>(bif (!y1) then(some ((⟨#[]⟩:ByteArray),false)) else((t2u (x,([] :List Int))).bind fun r2=>match r2 with | .inl o3=>(bif (Nat.ble (o3.2.length+([(IntKind.u8.wrap o3.1)] :List Int).length) z7w) then(some ((y7g (o3.2++([(IntKind.u8.wrap o3.1)] :List Int))),true)) else none) | .inr z4=>none)))
theorem q38:u8i=r2h:=zC 312 rfl Tryz.func312 (by kernel_rfl)
def t25(x:ByteArray):Option s13:=zK 294 x
def s52 (x:ByteArray):Option s13:=(bif (decide ((x.size:Int) >(20000:Int))) then(some ((⟨#[]⟩:ByteArray),false)) else((u8i (x.size:Int)).bind fun y1=>(bif (decide (y1.1.size+x.size≤140737488355328)) then(some ((y1.1++x),true)) else none)))
theorem r9t:t25=s52:=zC 294 rfl Tryz.func294 (by kernel_rfl)
def u4m(x:(r4n×r4l)):Option r4n:=zK 167 x
def u8t(g:o33→Option p7p)(x:o33):Option p7p:=(bif (decide (x.2.2.2<x.2.2.1)) then(bif (y4q x.2.2.2 x.2.1.length) then((t25 (rdL Ty.str x.2.1 (x.2.2.2).toNat)).bind fun y1=>(bif (Nat.ble (x.1.length+(z7t y1.1).length) z7w) then(g ((x.1++(z7t y1.1)),(x.2.1,(x.2.2.1,(IntKind.i64.wrap (x.2.2.2+1)))))) else none)) else none) else(some (.inl x.1)))
def u80:=lpW _ _ u8t
theorem s07 x:u80 x=u8t u80 x:=zW s0d 167 Tryz.f167 1 29 x (by kernel_rfl)
def s58 (x:(r4n×r4l)):Option r4n:=((u80 (x.1,(x.2,((x.2.length:Int),0)))).bind fun r2=>match r2 with | .inl o3=>(some o3) | .inr z4=>none)
theorem r90:u4m=s58:=zC 167 rfl Tryz.func167 (by kernel_rfl)
def u5h(x:(r4n×Bool)):Option r4n:=zK 168 x
def s57 (x:(r4n×Bool)):Option r4n:=(bif x.2 then(bif (Nat.ble (x.1.length+([(1:Int)] :List Int).length) z7w) then(some (x.1++([(1:Int)] :List Int))) else none) else(bif (Nat.ble (x.1.length+([(0:Int)] :List Int).length) z7w) then(some (x.1++([(0:Int)] :List Int))) else none))
theorem r9z:u5h=s57:=zC 168 rfl Tryz.func168 (by kernel_rfl)
def u38(x:(r4n×r4n)):Option r4n:=zK 184 x
def u91(g:o35→Option p7p)(x:o35):Option p7p:=(bif (decide (x.2.2.2<x.2.2.1)) then(bif (y4q x.2.2.2 x.2.1.length) then((u8i (rdL (Ty.int .i64) x.2.1 (x.2.2.2).toNat)).bind fun y1=>(bif (Nat.ble (x.1.length+(z7t y1.1).length) z7w) then(g ((x.1++(z7t y1.1)),(x.2.1,(x.2.2.1,(IntKind.i64.wrap (x.2.2.2+1)))))) else none)) else none) else(some (.inl x.1)))
def t0n:=lpW _ _ u91
theorem s4d x:t0n x=u91 t0n x:=zW s29 184 Tryz.f184 1 29 x (by kernel_rfl)
def s87 (x:(r4n×r4n)):Option r4n:=((t0n (x.1,(x.2,((x.2.length:Int),0)))).bind fun r2=>match r2 with | .inl o3=>(some o3) | .inr z4=>none)
theorem q1s:u38=s87:=zC 184 rfl Tryz.func184 (by kernel_rfl)
def u8h(x:Z88):Option s13:=zK 169 x
def t18(g:Z53→Option (Z81⊕Unit))(x:Z53):Option (Z81⊕Unit):=(bif (decide (x.2.2.2.2<x.2.2.2.1)) then(bif (y4q x.2.2.2.2 x.2.2.1.length) then((u4m (x.2.1,([(rdL r36 x.2.2.1 (x.2.2.2.2).toNat).1,(rdL r36 x.2.2.1 (x.2.2.2.2).toNat).2] :List ByteArray))).bind fun y3=>(g (x.1,(y3,(x.2.2.1,(x.2.2.2.1,(IntKind.i64.wrap (x.2.2.2.2+1)))))))) else none) else(some (.inl (x.1,x.2.1))))
def u7y:=lpW _ _ t18
theorem s7p x:u7y x=t18 u7y x:=zW s6v 169 Tryz.f169 6 82 x (by kernel_rfl)
def u9y(g:Z52→Option (Z81⊕Unit))(x:Z52):Option (Z81⊕Unit):=(bif (decide (x.2.2.2.2<x.2.2.2.1)) then(bif (y4q x.2.2.2.2 x.2.2.1.length) then((u4m (x.2.1,([(rdL u2k x.2.2.1 (x.2.2.2.2).toNat).1,(rdL u2k x.2.2.1 (x.2.2.2.2).toNat).2.1] :List ByteArray))).bind fun y7=>((u5h (y7,(rdL u2k x.2.2.1 (x.2.2.2.2).toNat).2.2)).bind fun y8=>(g (x.1,(y8,(x.2.2.1,(x.2.2.2.1,(IntKind.i64.wrap (x.2.2.2.2+1))))))))) else none) else(some (.inl (x.1,x.2.1))))
def u54:=lpW _ _ u9y
theorem s4a x:u54 x=u9y u54 x:=zW s26 169 Tryz.f169 12 82 x (by kernel_rfl)
def r2g (x:Z88):Option s13:=((u5p x).bind fun y1=>(bif (!y1) then(some ((⟨#[]⟩:ByteArray),false)) else((u38 (([] :List Int),([x.1,x.2.1,x.2.2.1,x.2.2.2.1,(x.2.2.2.2.1.length:Int)] :List Int))).bind fun y2=>((u7y (x,(y2,(x.2.2.2.2.1,((x.2.2.2.2.1.length:Int),0))))).bind fun r4=>match r4 with | .inl o5=>((u38 (o5.2,([(o5.1.2.2.2.2.2.1.length:Int)] :List Int))).bind fun y6=>((u54 (o5.1,(y6,(o5.1.2.2.2.2.2.1,((o5.1.2.2.2.2.2.1.length:Int),0))))).bind fun r9=>match r9 with | .inl o10=>((u5h (o10.2,o10.1.2.2.2.2.2.2.1)).bind fun y11=>((u4m (y11,([o10.1.2.2.2.2.2.2.2] :List ByteArray))).bind fun y12=>(some ((y7g y12),true)))) | .inr z13=>none)) | .inr z14=>none))))
theorem q37:u8h=r2g:=zC 169 rfl Tryz.func169 (by kernel_rfl)
def t8s(x:Z75):Option s13:=zK 62 x
def u9s(g:Z40→Option (Z64⊕Unit))(x:Z40):Option (Z64⊕Unit):=(bif (decide (x.2.2.2.2<x.2.2.2.1)) then(bif (y4q x.2.2.2.2 x.2.2.1.length) then((u4m (x.2.1,([(rdL u0d x.2.2.1 (x.2.2.2.2).toNat).1,(rdL u0d x.2.2.1 (x.2.2.2.2).toNat).2.1] :List ByteArray))).bind fun y3=>((u5h (y3,(rdL u0d x.2.2.1 (x.2.2.2.2).toNat).2.2.1)).bind fun y4=>((u38 (y4,([(rdL u0d x.2.2.1 (x.2.2.2.2).toNat).2.2.2] :List Int))).bind fun y5=>(g (x.1,(y5,(x.2.2.1,(x.2.2.2.1,(IntKind.i64.wrap (x.2.2.2.2+1)))))))))) else none) else(some (.inl (x.1,x.2.1))))
def u53:=lpW _ _ u9s
theorem s34 x:u53 x=u9s u53 x:=zW s20 62 Tryz.f62 6 94 x (by kernel_rfl)
def u8o(g:Z65→Option (o02⊕Unit))(x:Z65):Option (o02⊕Unit):=(bif (decide (x.2.2.2.2.2.2<x.2.2.2.2.2.1)) then(bif (y4q x.2.2.2.2.2.2 x.2.2.2.2.1.length) then((u8h (rdL u0a x.2.2.2.2.1 (x.2.2.2.2.2.2).toNat)).bind fun y9=>(bif (Nat.ble (x.1.length+(z7t y9.1).length) z7w) then(g ((x.1++(z7t y9.1)),(x.2.1,(x.2.2.1,(x.2.2.2.1,(x.2.2.2.2.1,(x.2.2.2.2.2.1,(IntKind.i64.wrap (x.2.2.2.2.2.2+1))))))))) else none)) else none) else(some (.inl (x.1,(x.2.1,(x.2.2.1,x.2.2.2.1))))))
def u5j:=lpW _ _ u8o
theorem s03 x:u5j x=u8o u5j x:=zW t99 62 Tryz.f62 17 94 x (by kernel_rfl)
def u5i(g:o02→Option p7p)(x:o02):Option p7p:=(bif (decide (x.2.2.2<x.2.2.1)) then(bif (y4q x.2.2.2 x.2.1.length) then((u38 (x.1,([((rdL (Ty.sl u0a) x.2.1 (x.2.2.2).toNat).length:Int)] :List Int))).bind fun y8=>((u5j (y8,(x.2.1,(x.2.2.1,(x.2.2.2,((rdL (Ty.sl u0a) x.2.1 (x.2.2.2).toNat),(((rdL (Ty.sl u0a) x.2.1 (x.2.2.2).toNat).length:Int),0))))))).bind fun r10=>match r10 with | .inl o11=>(g (o11.1,(o11.2.1,(o11.2.2.1,(IntKind.i64.wrap (o11.2.2.2+1)))))) | .inr z12=>(some (.inr ())))) else none) else(some (.inl x.1)))
def u8y:=lpW _ _ u5i
theorem t40 x:u8y x=u5i u8y x:=zW t98 62 Tryz.f62 13 94 x (by kernel_rfl)
def s8s (x:Z75):Option s13:=((u16 x).bind fun y1=>(bif (!y1) then(some ((⟨#[]⟩:ByteArray),false)) else((u38 (([] :List Int),([x.2.2.2.1,x.2.2.2.2,(x.1.length:Int)] :List Int))).bind fun y2=>((u53 (x,(y2,(x.1,((x.1.length:Int),0))))).bind fun r6=>match r6 with | .inl o7=>((u8y (o7.2,(([o7.1.2.1,o7.1.2.2.1] :List r61),((([o7.1.2.1,o7.1.2.2.1] :List r61).length:Int),0)))).bind fun r13=>match r13 with | .inl o14=>(some ((y7g o14),true)) | .inr z15=>none) | .inr z16=>none))))
theorem q1c:t8s=s8s:=zC 62 rfl Tryz.func62 (by kernel_rfl)
def t81(x:Z88):Option Bool:=zK 193 x
def s86 (x:Z88):Option Bool:=(((bif (decide (x.1=0)) then(bif (decide (x.2.1=0)) then(bif (decide (x.2.2.1=0)) then(bif (decide (x.2.2.2.1=0)) then(bif (decide ((x.2.2.2.2.1.length:Int)=(0:Int))) then(bif (decide ((x.2.2.2.2.2.1.length:Int)=(0:Int))) then(bif (!x.2.2.2.2.2.2.1) then(some (z7o x.2.2.2.2.2.2.2 (⟨#[]⟩:ByteArray))) else(some false)) else(some false)) else(some false)) else(some false)) else(some false)) else(some false)) else(some false)):Option Bool).bind fun j1=>(some j1))
theorem q1r:t81=s86:=zC 193 rfl Tryz.func193 (by kernel_rfl)
def t62(x:Z75):Option Bool:=zK 194 x
def s54 (x:Z75):Option Bool:=(((bif (decide ((x.1.length:Int)=(0:Int))) then(bif (decide ((x.2.1.length:Int)=(0:Int))) then(bif (decide ((x.2.2.1.length:Int)=(0:Int))) then(bif (decide (x.2.2.2.1=0)) then(some (decide (x.2.2.2.2=0))) else(some false)) else(some false)) else(some false)) else(some false)):Option Bool).bind fun j1=>(some j1))
theorem r9w:t62=s54:=zC 194 rfl Tryz.func194 (by kernel_rfl)
def t4j(x:Z26):Option Bool:=zK 67 x
def s8z (x:Z26):Option Bool:=((t81 x.2.1).bind fun y1=>((t62 x.2.2.2.2).bind fun y2=>(bif (decide (x.1=1)) then((((u5p x.2.1).bind fun y3=>(bif y3 then((t4n x.2.1).bind fun y4=>(some y4)) else(some false))):Option Bool).bind fun j5=>(((bif j5 then(bif (z7o x.2.2.1 (⟨#[]⟩:ByteArray)) then(bif y2 then(bif (!x.2.2.2.1) then(some true) else(some (decide (x.1=3)))) else(some false)) else(some false)) else(some false)):Option Bool).bind fun j6=>(some j6))) else(bif (decide (x.1=2)) then((((u5p x.2.1).bind fun y7=>(bif y7 then((t54 x.2.1).bind fun y8=>(some y8)) else(some false))):Option Bool).bind fun j9=>(((bif j9 then(bif (z7o x.2.2.1 (⟨#[]⟩:ByteArray)) then(bif y2 then(bif (!x.2.2.2.1) then(some true) else(some (decide (x.1=3)))) else(some false)) else(some false)) else(some false)):Option Bool).bind fun j10=>(some j10))) else(bif (decide (x.1=3)) then((u6y x.2.2.1).bind fun y11=>(((bif y1 then(bif y11 then(bif y2 then(bif (!x.2.2.2.1) then(some true) else(some (decide (x.1=3)))) else(some false)) else(some false)) else(some false)):Option Bool).bind fun j12=>(some j12))) else(bif (decide (x.1=4)) then((u16 x.2.2.2.2).bind fun y13=>(((bif y1 then(bif (z7o x.2.2.1 (⟨#[]⟩:ByteArray)) then(bif y13 then(bif (!x.2.2.2.1) then(some true) else(some (decide (x.1=3)))) else(some false)) else(some false)) else(some false)):Option Bool).bind fun j14=>(some j14))) else(some false)))))))
theorem q1j:t4j=s8z:=zC 67 rfl Tryz.func67 (by kernel_rfl)
def s1i(x:p5w):Option Int:=zK 390 x
def s5t(g:o1q→Option (p7s⊕Unit))(x:o1q):Option (p7s⊕Unit):=(bif (decide (x.2.2.2<8)) then(bif (decide ((Int.tmod x.1 (2:Int))=1)) then(g ((IntKind.u32.wrap ((BitVec.ofInt (IntKind.u32).bits (IntKind.u32.wrap (Int.tdiv x.1 (2:Int)))^^^BitVec.ofInt (IntKind.u32).bits (3558460437:Int)).toNat:Int)),(x.2.1,(x.2.2.1,(IntKind.i64.wrap (x.2.2.2+1)))))) else(g ((IntKind.u32.wrap (Int.tdiv x.1 (2:Int))),(x.2.1,(x.2.2.1,(IntKind.i64.wrap (x.2.2.2+1))))))) else(some (.inl (x.1,(x.2.1,x.2.2.1)))))
def t2s:=lpW _ _ s5t
theorem q0f x:t2s x=s5t t2s x:=zW s6q 390 Tryz.f390 6 33 x (by kernel_rfl)
def t13(g:p7s→Option p20)(x:p7s):Option p20:=(bif (decide (x.2.2<(x.2.1.size:Int))) then(bif (y4q x.2.2 x.2.1.size) then((t2s ((IntKind.u32.wrap ((BitVec.ofInt (IntKind.u32).bits x.1^^^BitVec.ofInt (IntKind.u32).bits (IntKind.u32.wrap ((x.2.1.data.toList.getD (x.2.2).toNat 0).toNat:Int))).toNat:Int)),(x.2.1,(x.2.2,0)))).bind fun r1=>match r1 with | .inl o2=>(g (o2.1,(o2.2.1,(IntKind.i64.wrap (o2.2.2+1))))) | .inr z3=>(some (.inr ()))) else none) else(some (.inl x.1)))
def t2r:=lpW _ _ t13
theorem s7k x:t2r x=t13 t2r x:=zW s6p 390 Tryz.f390 2 33 x (by kernel_rfl)
def r2c (x:p5w):Option Int:=((t2r (x.1,(x.2,0))).bind fun r4=>match r4 with | .inl o5=>(some o5) | .inr z6=>none)
theorem q33:s1i=r2c:=zC 390 rfl Tryz.func390 (by kernel_rfl)
def r89(x:ByteArray):Option Int:=zK 295 x
def r8i (x:ByteArray):Option Int:=((s1i (4294967295,x)).bind fun y1=>(some y1))
theorem q9n:r89=r8i:=zC 295 rfl Tryz.func295 (by kernel_rfl)
def t0z(x:ByteArray):Option s13:=zK 170 x
def r4z (x:ByteArray):Option s13:=(bif (decide ((x.size:Int) >(20000:Int))) then(some ((⟨#[]⟩:ByteArray),false)) else((r89 x).bind fun y1=>(bif (decide (x.size+(y7g ([(IntKind.u8.wrap (Int.fdiv y1 (2^(min ((24:Int)).toNat (IntKind.u32).bits)))),(IntKind.u8.wrap (Int.fdiv y1 (2^(min ((16:Int)).toNat (IntKind.u32).bits)))),(IntKind.u8.wrap (Int.fdiv y1 (2^(min ((8:Int)).toNat (IntKind.u32).bits)))),(IntKind.u8.wrap y1)] :List Int)).size≤140737488355328)) then(some ((x++(y7g ([(IntKind.u8.wrap (Int.fdiv y1 (2^(min ((24:Int)).toNat (IntKind.u32).bits)))),(IntKind.u8.wrap (Int.fdiv y1 (2^(min ((16:Int)).toNat (IntKind.u32).bits)))),(IntKind.u8.wrap (Int.fdiv y1 (2^(min ((8:Int)).toNat (IntKind.u32).bits)))),(IntKind.u8.wrap y1)] :List Int))),true)) else none)))
theorem q68:t0z=r4z:=zC 170 rfl Tryz.func170 (by kernel_rfl)
def u6h(x:Z26):Option s13:=zK 57 x
def s2e (x:Z26):Option s13:=((t4j x).bind fun y1=>(bif (!y1) then(some ((⟨#[]⟩:ByteArray),false)) else(bif (decide (x.1=3)) then((u4m (([(IntKind.u8.wrap x.1)] :List Int),([x.2.2.1] :List ByteArray))).bind fun y2=>((u5h (y2,x.2.2.2.1)).bind fun y3=>((t0z (y7g y3)).bind fun y4=>(some y4)))) else(bif (decide (x.1=4)) then((t8s x.2.2.2.2).bind fun y5=>(bif (Nat.ble (([(IntKind.u8.wrap x.1)] :List Int).length+(z7t y5.1).length) z7w) then((t0z (y7g (([(IntKind.u8.wrap x.1)] :List Int)++(z7t y5.1)))).bind fun y6=>(some y6)) else none)) else((u8h x.2.1).bind fun y7=>(bif (Nat.ble (([(IntKind.u8.wrap x.1)] :List Int).length+(z7t y7.1).length) z7w) then((t0z (y7g (([(IntKind.u8.wrap x.1)] :List Int)++(z7t y7.1)))).bind fun y8=>(some y8)) else none))))))
theorem r7c:u6h=s2e:=zC 57 rfl Tryz.func57 (by kernel_rfl)
def t8y(x:ByteArray):Option s13:=zK 171 x
def s81 (x:ByteArray):Option s13:=(bif (decide ((x.size:Int)<(4:Int))) then(some ((⟨#[]⟩:ByteArray),false)) else(bif (decide (0≤(0:Int))&&decide ((0:Int)≤(IntKind.i64.wrap ((x.size:Int) - (4:Int))))&&decide ((IntKind.i64.wrap ((x.size:Int) - (4:Int)))≤(x.size:Int))) then((t0z (x.extract ((0:Int)).toNat ((IntKind.i64.wrap ((x.size:Int) - (4:Int)))).toNat)).bind fun y1=>(((bif (!y1.2) then(some true) else(some (!z7o y1.1 x))):Option Bool).bind fun j2=>(bif j2 then(some ((⟨#[]⟩:ByteArray),false)) else(some ((x.extract ((0:Int)).toNat ((IntKind.i64.wrap ((x.size:Int) - (4:Int)))).toNat),true))))) else none))
theorem q1m:t8y=s81:=zC 171 rfl Tryz.func171 (by kernel_rfl)
def t5z(x:p0t):Option p7t:=zK 391 x
def t12(g:(ByteArray×p9l)→Option (Unit⊕p7t))(x:(ByteArray×p9l)):Option (Unit⊕p7t):=(((bif (decide (x.2.2.2<5)) then(some (decide ((IntKind.i64.wrap (x.2.1+x.2.2.2))<(x.1.size:Int)))) else(some false)):Option Bool).bind fun j2=>(bif j2 then(bif (y4q (IntKind.i64.wrap (x.2.1+x.2.2.2)) x.1.size) then(bif (decide (0≤(IntKind.i64.wrap ((7:Int)*x.2.2.2)))) then(bif (decide ((IntKind.i64.wrap ((x.1.data.toList.getD ((IntKind.i64.wrap (x.2.1+x.2.2.2))).toNat 0).toNat:Int))<128)) then((u8i (IntKind.i64.wrap (x.2.2.1+(IntKind.i64.wrap ((Int.tmod (IntKind.i64.wrap ((x.1.data.toList.getD ((IntKind.i64.wrap (x.2.1+x.2.2.2))).toNat 0).toNat:Int)) (128:Int))*2^(min ((IntKind.i64.wrap ((7:Int)*x.2.2.2))).toNat (IntKind.i64).bits)))))).bind fun y3=>(((bif (!y3.2) then(some true) else(some (!decide ((y3.1.size:Int)=(IntKind.i64.wrap (x.2.2.2+1)))))):Option Bool).bind fun j4=>(bif j4 then(some (.inr (0,(0,false)))) else(some (.inr ((IntKind.i64.wrap (x.2.2.1+(IntKind.i64.wrap ((Int.tmod (IntKind.i64.wrap ((x.1.data.toList.getD ((IntKind.i64.wrap (x.2.1+x.2.2.2))).toNat 0).toNat:Int)) (128:Int))*2^(min ((IntKind.i64.wrap ((7:Int)*x.2.2.2))).toNat (IntKind.i64).bits))))),((IntKind.i64.wrap ((IntKind.i64.wrap (x.2.1+x.2.2.2))+1)),true))))))) else(g (x.1,(x.2.1,((IntKind.i64.wrap (x.2.2.1+(IntKind.i64.wrap ((Int.tmod (IntKind.i64.wrap ((x.1.data.toList.getD ((IntKind.i64.wrap (x.2.1+x.2.2.2))).toNat 0).toNat:Int)) (128:Int))*2^(min ((IntKind.i64.wrap ((7:Int)*x.2.2.2))).toNat (IntKind.i64).bits))))),(IntKind.i64.wrap (x.2.2.2+1))))))) else none) else none) else(some (.inl ()))))
def t2q:=lpW _ _ t12
theorem s7j x:t2q x=t12 t2q x:=zW s6o 391 Tryz.f391 5 63 x (by kernel_rfl)
def r19 (x:p0t):Option p7t:=((u08 (x.2,(0,(x.1.size:Int)))).bind fun y1=>(bif (!y1) then(some (0,(0,false))) else((t2q (x.1,(x.2,(0,0)))).bind fun r5=>match r5 with | .inl o6=>(some (0,(0,false))) | .inr z7=>(some z7))))
theorem q30:t5z=r19:=zC 391 rfl Tryz.func391 (by kernel_rfl)
def t23(x:p0t):Option r4m:=zK 296 x
def s5z (x:p0t):Option r4m:=((t5z x).bind fun y1=>(((bif (!y1.2.2) then(some true) else(bif (decide (y1.1 >20000)) then(some true) else(some (decide (y1.1 >(IntKind.i64.wrap ((x.1.size:Int) - y1.2.1))))))):Option Bool).bind fun j2=>(bif j2 then(some ((⟨#[]⟩:ByteArray),(0,false))) else(bif (decide (0≤y1.2.1)&&decide (y1.2.1≤(IntKind.i64.wrap (y1.2.1+y1.1)))&&decide ((IntKind.i64.wrap (y1.2.1+y1.1))≤(x.1.size:Int))) then(some ((x.1.extract (y1.2.1).toNat ((IntKind.i64.wrap (y1.2.1+y1.1))).toNat),((IntKind.i64.wrap (y1.2.1+y1.1)),true))) else none))))
theorem r9q:t23=s5z:=zC 296 rfl Tryz.func296 (by kernel_rfl)
def u1s(x:r4m):Option o1g:=zK 172 x
def t95 (x:r4m):Option o1g:=((t23 (x.1,x.2.1)).bind fun y1=>(((bif x.2.2 then(some true) else(some (!y1.2.2))):Option Bool).bind fun j2=>(bif j2 then(some ((⟨#[]⟩:ByteArray),(x.1,(x.2.1,true)))) else(some (y1.1,(x.1,(y1.2.1,x.2.2)))))))
theorem r59:u1s=t95:=zC 172 rfl Tryz.func172 (by kernel_rfl)
def u4h(x:r4m):Option (Bool×r4m):=zK 173 x
def t94 (x:r4m):Option (Bool×r4m):=(((bif x.2.2 then(some true) else((u08 (x.2.1,(0,(IntKind.i64.wrap ((x.1.size:Int) - (1:Int)))))).bind fun y1=>(bif (!y1) then(some true) else(bif (y4q x.2.1 x.1.size) then(some (decide (((x.1.data.toList.getD (x.2.1).toNat 0).toNat:Int) >(1:Int)))) else none)))):Option Bool).bind fun j2=>(bif j2 then(some (false,(x.1,(x.2.1,true)))) else(bif (y4q (IntKind.i64.wrap ((IntKind.i64.wrap (x.2.1+1)) - 1)) x.1.size) then(some ((decide (((x.1.data.toList.getD ((IntKind.i64.wrap ((IntKind.i64.wrap (x.2.1+1)) - 1))).toNat 0).toNat:Int)=(1:Int))),(x.1,((IntKind.i64.wrap (x.2.1+1)),x.2.2)))) else none)))
theorem r58:u4h=t94:=zC 173 rfl Tryz.func173 (by kernel_rfl)
def u0x(x:r4m):Option (Int×r4m):=zK 297 x
def s2i (x:r4m):Option (Int×r4m):=((t5z (x.1,x.2.1)).bind fun y1=>(((bif x.2.2 then(some true) else(some (!y1.2.2))):Option Bool).bind fun j2=>(bif j2 then(some (0,(x.1,(x.2.1,true)))) else(some (y1.1,(x.1,(y1.2.1,x.2.2)))))))
theorem r7g:u0x=s2i:=zC 297 rfl Tryz.func297 (by kernel_rfl)
def t7h(x:Z51):Option Z51:=zK 299 x
def t69 (x:Z51):Option Z51:=((u1s x.1).bind fun y1=>((u1s y1.2).bind fun y2=>((u4h y2.2).bind fun y3=>((u0x y3.2).bind fun y4=>(bif (Nat.ble (x.2.1.length+([(y1.1,(y2.1,(y3.1,y4.1)))] :List u0d.den).length) z7w) then(some (y4.2,((x.2.1++([(y1.1,(y2.1,(y3.1,y4.1)))] :List u0d.den)),x.2.2))) else none)))))
theorem r1o:t7h=t69:=zC 299 rfl Tryz.func299 (by kernel_rfl)
def u19(x:Z44):Option Z44:=zK 10015 x
def u1e(g:Z39→Option (Z44⊕Unit))(x:Z39):Option (Z44⊕Unit):=(((bif (decide (x.2.2.2<x.2.2.1)) then(some (!x.1.2.2)) else(some false)):Option Bool).bind fun j2=>(bif j2 then((t7h (x.1,x.2.1.2)).bind fun y3=>(g (y3.1,(((),y3.2),(x.2.2.1,(IntKind.i64.wrap (x.2.2.2+1))))))) else(some (.inl (x.1,((),x.2.1.2))))))
def u0n:=lpW _ _ u1e
theorem u39 x:u0n x=u1e u0n x:=zW u34 10015 Tryz.f298 2 22 x (by kernel_rfl)
def u4r (x:Z44):Option Z44:=((u0x x.1).bind fun y1=>((u0n (y1.2,(((),x.2.2),(y1.1,0)))).bind fun r4=>match r4 with | .inl o5=>(some (o5.1,((),o5.2.2))) | .inr z6=>none))
theorem t1e:u19=u4r:=zC 10015 rfl Tryz.func298 (by kernel_rfl)
def t82(x:Z69):Option Z69:=zK 302 x
def t8b (x:Z69):Option Z69:=((u1s x.2).bind fun y1=>((u1s y1.2).bind fun y2=>(bif (Nat.ble (x.1.2.2.2.2.1.length+([(y1.1,y2.1)] :List r36.den).length) z7w) then(some ((x.1.1,(x.1.2.1,(x.1.2.2.1,(x.1.2.2.2.1,((x.1.2.2.2.2.1++([(y1.1,y2.1)] :List r36.den)),x.1.2.2.2.2.2))))),y2.2)) else none)))
theorem r38:t82=t8b:=zC 302 rfl Tryz.func302 (by kernel_rfl)
def u2f(x:Z59):Option Z59:=zK 10017 x
def u1m(g:Z48→Option (Z59⊕Unit))(x:Z48):Option (Z59⊕Unit):=(((bif (decide (x.2.2.2<x.2.2.1)) then(some (!x.1.2.2)) else(some false)):Option Bool).bind fun j2=>(bif j2 then((t82 (x.2.1.1,x.1)).bind fun y3=>(g (y3.2,((y3.1,()),(x.2.2.1,(IntKind.i64.wrap (x.2.2.2+1))))))) else(some (.inl (x.1,(x.2.1.1,()))))))
def u0s:=lpW _ _ u1m
theorem u4i x:u0s x=u1m u0s x:=zW u4f 10017 Tryz.f298 2 22 x (by kernel_rfl)
def u4y (x:Z59):Option Z59:=((u0x x.1).bind fun y1=>((u0s (y1.2,((x.2.1,()),(y1.1,0)))).bind fun r4=>match r4 with | .inl o5=>(some (o5.1,(o5.2.1,()))) | .inr z6=>none))
theorem t1l:u2f=u4y:=zC 10017 rfl Tryz.func298 (by kernel_rfl)
def t83(x:Z71):Option Z71:=zK 303 x
def t8c (x:Z71):Option Z71:=((u1s x.1).bind fun y1=>((u1s y1.2).bind fun y2=>((u4h y2.2).bind fun y3=>(bif (Nat.ble (x.2.2.2.2.2.2.1.length+([(y1.1,(y2.1,y3.1))] :List u2k.den).length) z7w) then(some (y3.2,(x.2.1,(x.2.2.1,(x.2.2.2.1,(x.2.2.2.2.1,(x.2.2.2.2.2.1,((x.2.2.2.2.2.2.1++([(y1.1,(y2.1,y3.1))] :List u2k.den)),x.2.2.2.2.2.2.2)))))))) else none))))
theorem r39:t83=t8c:=zC 303 rfl Tryz.func303 (by kernel_rfl)
def u2g(x:Z63):Option Z63:=zK 10018 x
def u1n(g:Z47→Option (Z63⊕Unit))(x:Z47):Option (Z63⊕Unit):=(((bif (decide (x.2.2.2<x.2.2.1)) then(some (!x.1.2.2)) else(some false)):Option Bool).bind fun j2=>(bif j2 then((t83 (x.1,x.2.1.2)).bind fun y3=>(g (y3.1,(((),y3.2),(x.2.2.1,(IntKind.i64.wrap (x.2.2.2+1))))))) else(some (.inl (x.1,((),x.2.1.2))))))
def u0t:=lpW _ _ u1n
theorem u4j x:u0t x=u1n u0t x:=zW u4g 10018 Tryz.f298 2 22 x (by kernel_rfl)
def u4z (x:Z63):Option Z63:=((u0x x.1).bind fun y1=>((u0t (y1.2,(((),x.2.2),(y1.1,0)))).bind fun r4=>match r4 with | .inl o5=>(some (o5.1,((),o5.2.2))) | .inr z6=>none))
theorem t1m:u2g=u4z:=zC 10018 rfl Tryz.func298 (by kernel_rfl)
def u6j(x:r4m):Option Z69:=zK 175 x
def s2j (x:r4m):Option Z69:=((u0x x).bind fun y1=>((u0x y1.2).bind fun y2=>((u0x y2.2).bind fun y3=>((u0x y3.2).bind fun y4=>((u2f (y4.2,((y1.1,(y2.1,(y3.1,(y4.1,(([] :List r36.den),(([] :List u2k.den),(false,(⟨#[]⟩:ByteArray)))))))),()))).bind fun y5=>((u2g (y5.1,((),y5.2.1))).bind fun y6=>((u4h y6.1).bind fun y7=>((u1s y7.2).bind fun y8=>(bif y8.2.2.2 then(some ((y6.2.2.1,(y6.2.2.2.1,(y6.2.2.2.2.1,(y6.2.2.2.2.2.1,(y6.2.2.2.2.2.2.1,(y6.2.2.2.2.2.2.2.1,(y7.1,y8.1))))))),(y8.2.1,(y8.2.2.1,true)))) else((u5p (y6.2.2.1,(y6.2.2.2.1,(y6.2.2.2.2.1,(y6.2.2.2.2.2.1,(y6.2.2.2.2.2.2.1,(y6.2.2.2.2.2.2.2.1,(y7.1,y8.1)))))))).bind fun y9=>(some ((y6.2.2.1,(y6.2.2.2.1,(y6.2.2.2.2.1,(y6.2.2.2.2.2.1,(y6.2.2.2.2.2.2.1,(y6.2.2.2.2.2.2.2.1,(y7.1,y8.1))))))),(y8.2.1,(y8.2.2.1,(!y9)))))))))))))))
theorem r7h:u6j=s2j:=zC 175 rfl Tryz.func175 (by kernel_rfl)
def t7i(x:Z49):Option Z49:=zK 300 x
def t7a (x:Z49):Option Z49:=((u6j x.2).bind fun y1=>(bif (Nat.ble (x.1.2.1.length+([y1.1] :List u0a.den).length) z7w) then(some ((x.1.1,((x.1.2.1++([y1.1] :List u0a.den)),x.1.2.2)),y1.2)) else none))
theorem r1p:t7i=t7a:=zC 300 rfl Tryz.func300 (by kernel_rfl)
def u2a(x:Z43):Option Z43:=zK 10016 x
def u1f(g:Z38→Option (Z43⊕Unit))(x:Z38):Option (Z43⊕Unit):=(((bif (decide (x.2.2.2<x.2.2.1)) then(some (!x.1.2.2)) else(some false)):Option Bool).bind fun j2=>(bif j2 then((t7i (x.2.1.1,x.1)).bind fun y3=>(g (y3.2,((y3.1,()),(x.2.2.1,(IntKind.i64.wrap (x.2.2.2+1))))))) else(some (.inl (x.1,(x.2.1.1,()))))))
def u0o:=lpW _ _ u1f
theorem u4a x:u0o x=u1f u0o x:=zW u35 10016 Tryz.f298 2 22 x (by kernel_rfl)
def u4s (x:Z43):Option Z43:=((u0x x.1).bind fun y1=>((u0o (y1.2,((x.2.1,()),(y1.1,0)))).bind fun r4=>match r4 with | .inl o5=>(some (o5.1,(o5.2.1,()))) | .inr z6=>none))
theorem t1f:u2a=u4s:=zC 10016 rfl Tryz.func298 (by kernel_rfl)
def t7j(x:Z49):Option Z49:=zK 301 x
def t7b (x:Z49):Option Z49:=((u6j x.2).bind fun y1=>(bif (Nat.ble (x.1.2.2.1.length+([y1.1] :List u0a.den).length) z7w) then(some ((x.1.1,(x.1.2.1,((x.1.2.2.1++([y1.1] :List u0a.den)),x.1.2.2.2))),y1.2)) else none))
theorem r1q:t7j=t7b:=zC 301 rfl Tryz.func301 (by kernel_rfl)
def u2b(x:Z43):Option Z43:=zK 10019 x
def u1g(g:Z38→Option (Z43⊕Unit))(x:Z38):Option (Z43⊕Unit):=(((bif (decide (x.2.2.2<x.2.2.1)) then(some (!x.1.2.2)) else(some false)):Option Bool).bind fun j2=>(bif j2 then((t7j (x.2.1.1,x.1)).bind fun y3=>(g (y3.2,((y3.1,()),(x.2.2.1,(IntKind.i64.wrap (x.2.2.2+1))))))) else(some (.inl (x.1,(x.2.1.1,()))))))
def u0p:=lpW _ _ u1g
theorem u4b x:u0p x=u1g u0p x:=zW u36 10019 Tryz.f298 2 22 x (by kernel_rfl)
def u4t (x:Z43):Option Z43:=((u0x x.1).bind fun y1=>((u0p (y1.2,((x.2.1,()),(y1.1,0)))).bind fun r4=>match r4 with | .inl o5=>(some (o5.1,(o5.2.1,()))) | .inr z6=>none))
theorem t1g:u2b=u4t:=zC 10019 rfl Tryz.func298 (by kernel_rfl)
def t4o(x:r4m):Option Z49:=zK 174 x
def t93 (x:r4m):Option Z49:=((u0x x).bind fun y1=>((u0x y1.2).bind fun y2=>((u19 (y2.2,((),(([] :List u0d.den),(([] :List u0a.den),(([] :List u0a.den),(y1.1,y2.1))))))).bind fun y3=>((u2a (y3.1,(y3.2.2,()))).bind fun y4=>((u2b (y4.1,(y4.2.1,()))).bind fun y5=>(bif y5.1.2.2 then(some (y5.2.1,(y5.1.1,(y5.1.2.1,true)))) else((u16 y5.2.1).bind fun y6=>(some (y5.2.1,(y5.1.1,(y5.1.2.1,(!y6))))))))))))
theorem r57:t4o=t93:=zC 174 rfl Tryz.func174 (by kernel_rfl)
def t48(x:ByteArray):Option Z25:=zK 58 x
def s2c (x:ByteArray):Option Z25:=((t8y x).bind fun y1=>(((bif (!y1.2) then(some true) else(some (z7o y1.1 (⟨#[]⟩:ByteArray)))):Option Bool).bind fun j2=>(bif j2 then(some ((0,((0,(0,(0,(0,(([] :List r36.den),(([] :List u2k.den),(false,(⟨#[]⟩:ByteArray)))))))),((⟨#[]⟩:ByteArray),(false,(([] :List u0d.den),(([] :List u0a.den),(([] :List u0a.den),(0,0)))))))),false)) else(bif (y4q (0:Int) y1.1.size) then(bif (decide ((IntKind.i64.wrap ((y1.1.data.toList.getD ((0:Int)).toNat 0).toNat:Int))=3)) then((u1s (y1.1,(1,false))).bind fun y3=>((u4h y3.2).bind fun y4=>((u6h ((IntKind.i64.wrap ((y1.1.data.toList.getD ((0:Int)).toNat 0).toNat:Int)),((0,(0,(0,(0,(([] :List r36.den),(([] :List u2k.den),(false,(⟨#[]⟩:ByteArray)))))))),(y3.1,(y4.1,(([] :List u0d.den),(([] :List u0a.den),(([] :List u0a.den),(0,0))))))))).bind fun y5=>(((bif y4.2.2.2 then(some true) else(bif (!y5.2) then(some true) else(some (!z7o y5.1 x)))):Option Bool).bind fun j6=>(bif j6 then(some ((0,((0,(0,(0,(0,(([] :List r36.den),(([] :List u2k.den),(false,(⟨#[]⟩:ByteArray)))))))),((⟨#[]⟩:ByteArray),(false,(([] :List u0d.den),(([] :List u0a.den),(([] :List u0a.den),(0,0)))))))),false)) else(some (((IntKind.i64.wrap ((y1.1.data.toList.getD ((0:Int)).toNat 0).toNat:Int)),((0,(0,(0,(0,(([] :List r36.den),(([] :List u2k.den),(false,(⟨#[]⟩:ByteArray)))))))),(y3.1,(y4.1,(([] :List u0d.den),(([] :List u0a.den),(([] :List u0a.den),(0,0)))))))),true))))))) else(bif (decide ((IntKind.i64.wrap ((y1.1.data.toList.getD ((0:Int)).toNat 0).toNat:Int))=4)) then((t4o (y1.1,(1,false))).bind fun y7=>((u6h ((IntKind.i64.wrap ((y1.1.data.toList.getD ((0:Int)).toNat 0).toNat:Int)),((0,(0,(0,(0,(([] :List r36.den),(([] :List u2k.den),(false,(⟨#[]⟩:ByteArray)))))))),((⟨#[]⟩:ByteArray),(false,y7.1))))).bind fun y8=>(((bif y7.2.2.2 then(some true) else(bif (!y8.2) then(some true) else(some (!z7o y8.1 x)))):Option Bool).bind fun j9=>(bif j9 then(some ((0,((0,(0,(0,(0,(([] :List r36.den),(([] :List u2k.den),(false,(⟨#[]⟩:ByteArray)))))))),((⟨#[]⟩:ByteArray),(false,(([] :List u0d.den),(([] :List u0a.den),(([] :List u0a.den),(0,0)))))))),false)) else(some (((IntKind.i64.wrap ((y1.1.data.toList.getD ((0:Int)).toNat 0).toNat:Int)),((0,(0,(0,(0,(([] :List r36.den),(([] :List u2k.den),(false,(⟨#[]⟩:ByteArray)))))))),((⟨#[]⟩:ByteArray),(false,y7.1)))),true)))))) else((u6j (y1.1,(1,false))).bind fun y10=>((u6h ((IntKind.i64.wrap ((y1.1.data.toList.getD ((0:Int)).toNat 0).toNat:Int)),(y10.1,((⟨#[]⟩:ByteArray),(false,(([] :List u0d.den),(([] :List u0a.den),(([] :List u0a.den),(0,0))))))))).bind fun y11=>(((bif y10.2.2.2 then(some true) else(bif (!y11.2) then(some true) else(some (!z7o y11.1 x)))):Option Bool).bind fun j12=>(bif j12 then(some ((0,((0,(0,(0,(0,(([] :List r36.den),(([] :List u2k.den),(false,(⟨#[]⟩:ByteArray)))))))),((⟨#[]⟩:ByteArray),(false,(([] :List u0d.den),(([] :List u0a.den),(([] :List u0a.den),(0,0)))))))),false)) else(some (((IntKind.i64.wrap ((y1.1.data.toList.getD ((0:Int)).toNat 0).toNat:Int)),(y10.1,((⟨#[]⟩:ByteArray),(false,(([] :List u0d.den),(([] :List u0a.den),(([] :List u0a.den),(0,0)))))))),true)))))))) else none))))
theorem r7a:t48=s2c:=zC 58 rfl Tryz.func58 (by kernel_rfl)
def t24(x:Z82):Option Bool:=zK 149 x
def s50 (x:Z82):Option Bool:=(some (z7o x.1.2.2.2.2.2.2.2 x.2))
theorem r9r:t24=s50:=zC 149 rfl Tryz.func149 (by kernel_rfl)
def u3o(x:p9c):Option Int:=zK 10012 x
def u2v(g:p9b→Option p00)(x:p9b):Option p00:=(bif (decide (x.2.2.2<x.2.2.1)) then(bif (y4q x.2.2.2 x.1.length) then((t24 ((rdL u0a x.1 (x.2.2.2).toNat),x.2.1)).bind fun y1=>(bif y1 then(some (.inr x.2.2.2)) else(g (x.1,(x.2.1,(x.2.2.1,(IntKind.i64.wrap (x.2.2.2+1)))))))) else none) else(some (.inl ())))
def u02:=lpW _ _ u2v
theorem u6v x:u02 x=u2v u02 x:=zW u20 10012 Tryz.f148 2 19 x (by kernel_rfl)
def u3k (x:p9c):Option Int:=((u02 (x.1,(x.2,((x.1.length:Int),0)))).bind fun r2=>match r2 with | .inl o3=>(some (-1:Int)) | .inr z4=>(some z4))
theorem u8b:u3o=u3k:=zC 10012 rfl Tryz.func148 (by kernel_rfl)
def t52(x:Z66):Option Int:=zK 42 x
def r2a (x:Z66):Option Int:=((u3o (x.1.2.2.1,x.2)).bind fun y1=>(some y1))
theorem q31:t52=r2a:=zC 42 rfl Tryz.func42 (by kernel_rfl)
def t1p(x:Z88):Option Z88:=zK 147 x
def r2k (x:Z88):Option Z88:=(bif (Nat.ble x.2.2.2.2.1.length z7w) then(bif (Nat.ble x.2.2.2.2.2.1.length z7w) then(some x) else none) else none)
theorem q4b:t1p=r2k:=zC 147 rfl Tryz.func147 (by kernel_rfl)
def t4k(x:r61):Option r61:=zK 271 x
def u90(g:Z89→Option p7o)(x:Z89):Option p7o:=(bif (decide (x.2.2.2<x.2.2.1)) then(bif (y4q x.2.2.2 x.2.1.length) then((t1p (rdL u0a x.2.1 (x.2.2.2).toNat)).bind fun y1=>(bif (Nat.ble (x.1.length+([y1] :List u0a.den).length) z7w) then(g ((x.1++([y1] :List u0a.den)),(x.2.1,(x.2.2.1,(IntKind.i64.wrap (x.2.2.2+1)))))) else none)) else none) else(some (.inl x.1)))
def t0m:=lpW _ _ u90
theorem s4c x:t0m x=u90 t0m x:=zW s28 271 Tryz.f271 3 19 x (by kernel_rfl)
def s85 (x:r61):Option r61:=((t0m (([] :List u0a.den),(x,((x.length:Int),0)))).bind fun r2=>match r2 with | .inl o3=>(some o3) | .inr z4=>none)
theorem q1q:t4k=s85:=zC 271 rfl Tryz.func271 (by kernel_rfl)
def u1i(x:Z75):Option Z75:=zK 200 x
def s83 (x:Z75):Option Z75:=(bif (Nat.ble x.1.length z7w) then((t4k x.2.1).bind fun y1=>((t4k x.2.2.1).bind fun y2=>(some (x.1,(y1,(y2,x.2.2.2)))))) else none)
theorem q1o:u1i=s83:=zC 200 rfl Tryz.func200 (by kernel_rfl)
def t8w(x:Z42):Option Int:=zK 235 x
def u9u(g:p9x→Option p20)(x:p9x):Option p20:=(bif (decide (x.2.2.2<x.2.2.1)) then(bif (y4q x.2.2.2 x.2.1.length) then(g ((y8i x.1 (rdL u0a x.2.1 (x.2.2.2).toNat).2.2.1),(x.2.1,(x.2.2.1,(IntKind.i64.wrap (x.2.2.2+1)))))) else none) else(some (.inl x.1)))
def t0h:=lpW _ _ u9u
theorem s36 x:t0h x=u9u t0h x:=zW s22 235 Tryz.f235 3 22 x (by kernel_rfl)
def s8x (x:Z42):Option Int:=((t0h (x.1.2.2.2.1,(x.2,((x.2.length:Int),0)))).bind fun r1=>match r1 with | .inl o2=>(some o2) | .inr z3=>none)
theorem q1h:t8w=s8x:=zC 235 rfl Tryz.func235 (by kernel_rfl)
def t7v(x:p7d):Option Int:=zK 363 x
def t3v(g:Z94→Option p20)(x:Z94):Option p20:=(bif (decide (x.2.2.2.2.2.2<x.2.2.2.2.2.1)) then(bif (y4q x.2.2.2.2.2.2 x.2.2.2.2.1.length) then(((bif (z7o (rdL u0d x.2.2.2.2.1 (x.2.2.2.2.2.2).toNat).1 x.2.1) then(bif (decide ((rdL u0d x.2.2.2.2.1 (x.2.2.2.2.2.2).toNat).2.2.2≤x.2.2.1)) then(bif (decide (x.2.2.2.1<0)) then(some true) else(bif (y4q x.2.2.2.1 x.1.length) then(some (decide ((rdL u0d x.2.2.2.2.1 (x.2.2.2.2.2.2).toNat).2.2.2 >(rdL u0d x.1 (x.2.2.2.1).toNat).2.2.2))) else none)) else(some false)) else(some false)):Option Bool).bind fun j1=>(bif j1 then(g (x.1,(x.2.1,(x.2.2.1,(x.2.2.2.2.2.2,(x.2.2.2.2.1,(x.2.2.2.2.2.1,(IntKind.i64.wrap (x.2.2.2.2.2.2+1))))))))) else(g (x.1,(x.2.1,(x.2.2.1,(x.2.2.2.1,(x.2.2.2.2.1,(x.2.2.2.2.2.1,(IntKind.i64.wrap (x.2.2.2.2.2.2+1))))))))))) else none) else(some (.inl x.2.2.2.1)))
def u9c:=lpW _ _ t3v
theorem r07 x:u9c x=t3v u9c x:=zW s98 363 Tryz.f363 3 44 x (by kernel_rfl)
def r46 (x:p7d):Option Int:=((u9c (x.1,(x.2.1,(x.2.2,((-1:Int),(x.1,((x.1.length:Int),0))))))).bind fun r2=>match r2 with | .inl o3=>(some o3) | .inr z4=>none)
theorem q7d:t7v=r46:=zC 363 rfl Tryz.func363 (by kernel_rfl)
def t61(x:(ByteArray×s5s)):Option Int:=zK 364 x
def u8q(g:o3o→Option p20)(x:o3o):Option p20:=(bif (decide (x.2.2.2.2<x.2.2.2.1)) then(bif (y4q x.2.2.2.2 x.2.2.1.length) then(bif (z7o (rdL u0d x.2.2.1 (x.2.2.2.2).toNat).1 x.1) then(g (x.1,((IntKind.i64.wrap (x.2.1+1)),(x.2.2.1,(x.2.2.2.1,(IntKind.i64.wrap (x.2.2.2.2+1))))))) else(g (x.1,(x.2.1,(x.2.2.1,(x.2.2.2.1,(IntKind.i64.wrap (x.2.2.2.2+1)))))))) else none) else(some (.inl x.2.1)))
def u5k:=lpW _ _ u8q
theorem s05 x:u5k x=u8q u5k x:=zW s0b 364 Tryz.f364 3 21 x (by kernel_rfl)
def s53 (x:(ByteArray×s5s)):Option Int:=((u5k (x.1,(0,(x.2,((x.2.length:Int),0))))).bind fun r1=>match r1 with | .inl o2=>(some o2) | .inr z3=>none)
theorem r9v:t61=s53:=zC 364 rfl Tryz.func364 (by kernel_rfl)
def s1k(x:p7u):Option s5s:=zK 238 x
def t17(g:Z91→Option o1r)(x:Z91):Option o1r:=(bif (decide (x.2.2.2.2.2<x.2.2.2.2.1)) then(bif (y4q x.2.2.2.2.2 x.2.2.2.1.length) then(((bif (decide ((rdL u0d x.2.2.2.1 (x.2.2.2.2.2).toNat).2.2.2 >x.2.1)) then(some true) else((t7v (x.1,((rdL u0d x.2.2.2.1 (x.2.2.2.2.2).toNat).1,x.2.1))).bind fun y1=>(some (decide (y1=x.2.2.2.2.2))))):Option Bool).bind fun j2=>(bif j2 then(bif (Nat.ble (x.2.2.1.length+([(rdL u0d x.2.2.2.1 (x.2.2.2.2.2).toNat)] :List u0d.den).length) z7w) then(g (x.1,(x.2.1,((x.2.2.1++([(rdL u0d x.2.2.2.1 (x.2.2.2.2.2).toNat)] :List u0d.den)),(x.2.2.2.1,(x.2.2.2.2.1,(IntKind.i64.wrap (x.2.2.2.2.2+1)))))))) else none) else(g (x.1,(x.2.1,(x.2.2.1,(x.2.2.2.1,(x.2.2.2.2.1,(IntKind.i64.wrap (x.2.2.2.2.2+1)))))))))) else none) else(some (.inl (x.2.1,x.2.2.1))))
def u7x:=lpW _ _ t17
theorem s7o x:u7x x=t17 u7x x:=zW s6u 238 Tryz.f238 3 66 x (by kernel_rfl)
def u9x(g:Z92→Option p3w)(x:Z92):Option p3w:=(bif (decide (x.2.2.2.2.2<x.2.2.2.2.1)) then(bif (y4q x.2.2.2.2.2 x.2.2.2.1.length) then(bif (decide ((rdL u0d x.2.2.2.1 (x.2.2.2.2.2).toNat).2.2.2 >x.1)) then(bif (Nat.ble (x.2.2.1.length+([(rdL u0d x.2.2.2.1 (x.2.2.2.2.2).toNat)] :List u0d.den).length) z7w) then(g (x.1,(x.2.1,((x.2.2.1++([(rdL u0d x.2.2.2.1 (x.2.2.2.2.2).toNat)] :List u0d.den)),(x.2.2.2.1,(x.2.2.2.2.1,(IntKind.i64.wrap (x.2.2.2.2.2+1)))))))) else none) else(bif (!(rdL u0d x.2.2.2.1 (x.2.2.2.2.2).toNat).2.2.1) then(bif (Nat.ble (x.2.2.1.length+([(rdL u0d x.2.2.2.1 (x.2.2.2.2.2).toNat)] :List u0d.den).length) z7w) then(g (x.1,(x.2.1,((x.2.2.1++([(rdL u0d x.2.2.2.1 (x.2.2.2.2.2).toNat)] :List u0d.den)),(x.2.2.2.1,(x.2.2.2.2.1,(IntKind.i64.wrap (x.2.2.2.2.2+1)))))))) else none) else((t61 ((rdL u0d x.2.2.2.1 (x.2.2.2.2.2).toNat).1,x.2.1)).bind fun y5=>(bif (decide (y5 >1)) then(bif (Nat.ble (x.2.2.1.length+([(rdL u0d x.2.2.2.1 (x.2.2.2.2.2).toNat)] :List u0d.den).length) z7w) then(g (x.1,(x.2.1,((x.2.2.1++([(rdL u0d x.2.2.2.1 (x.2.2.2.2.2).toNat)] :List u0d.den)),(x.2.2.2.1,(x.2.2.2.2.1,(IntKind.i64.wrap (x.2.2.2.2.2+1)))))))) else none) else(g (x.1,(x.2.1,(x.2.2.1,(x.2.2.2.1,(x.2.2.2.2.1,(IntKind.i64.wrap (x.2.2.2.2.2+1)))))))))))) else none) else(some (.inl x.2.2.1)))
def t0k:=lpW _ _ u9x
theorem s39 x:t0k x=u9x t0k x:=zW s25 238 Tryz.f238 11 66 x (by kernel_rfl)
def r2f (x:p7u):Option s5s:=((u7x (x.1,(x.2,(([] :List u0d.den),(x.1,((x.1.length:Int),0)))))).bind fun r3=>match r3 with | .inl o4=>((t0k (o4.1,(o4.2,(([] :List u0d.den),(o4.2,((o4.2.length:Int),0)))))).bind fun r6=>match r6 with | .inl o7=>(some o7) | .inr z8=>none) | .inr z9=>none)
theorem q36:s1k=r2f:=zC 238 rfl Tryz.func238 (by kernel_rfl)
def u6i(x:Z84):Option Bool:=zK 237 x
def q04 (x:Z84):Option Bool:=(some (decide (x.1.2.2.2.1≤x.2)))
theorem q1l:u6i=q04:=zC 237 rfl Tryz.func237 (by kernel_rfl)
def u3w(x:p5t):Option Int:=zK 10002 x
def u26(g:o04→Option p00)(x:o04):Option p00:=(bif (decide (x.2.2.2<x.2.2.1)) then(bif (y4q x.2.2.2 x.1.length) then((u6i ((rdL u0a x.1 (x.2.2.2).toNat),x.2.1)).bind fun y1=>(bif y1 then(some (.inr x.2.2.2)) else(g (x.1,(x.2.1,(x.2.2.1,(IntKind.i64.wrap (x.2.2.2+1)))))))) else none) else(some (.inl ())))
def u07:=lpW _ _ u26
theorem u7r x:u07 x=u26 u07 x:=zW u3b 10002 Tryz.f148 2 19 x (by kernel_rfl)
def u3v (x:p5t):Option Int:=((u07 (x.1,(x.2,((x.1.length:Int),0)))).bind fun r2=>match r2 with | .inl o3=>(some (-1:Int)) | .inr z4=>(some z4))
theorem u8m:u3w=u3v:=zC 10002 rfl Tryz.func148 (by kernel_rfl)
def u1w(x:p5t):Option r61:=zK 10001 x
def u2t(g:o04→Option p9g)(x:o04):Option p9g:=(bif (decide (x.2.2.2<(x.1.length:Int))) then(bif (y4q x.2.2.2 x.1.length) then((u6i ((rdL u0a x.1 (x.2.2.2).toNat),x.2.1)).bind fun y2=>(bif (!y2) then(bif (y4q x.2.2.1 x.1.length) then(g ((x.1.set (x.2.2.1).toNat (rdL u0a x.1 (x.2.2.2).toNat)),(x.2.1,((IntKind.i64.wrap (x.2.2.1+1)),(IntKind.i64.wrap (x.2.2.2+1)))))) else none) else(g (x.1,(x.2.1,(x.2.2.1,(IntKind.i64.wrap (x.2.2.2+1)))))))) else none) else(some (.inl (x.1,x.2.2.1))))
def u00:=lpW _ _ u2t
theorem u6t x:u00 x=u2t u00 x:=zW u2y 10001 Tryz.f236 5 42 x (by kernel_rfl)
def u3i (x:p5t):Option r61:=((u3w x).bind fun y1=>(bif (decide (y1=(-1:Int))) then(some x.1) else((u00 (x.1,(x.2,(y1,(IntKind.i64.wrap (y1+1)))))).bind fun r3=>match r3 with | .inl o4=>(bif (decide (0≤o4.2)&&decide (o4.2≤(o4.1.length:Int))&&decide ((o4.1.length:Int)≤(o4.1.length:Int))) then(bif (decide (0≤(0:Int))&&decide ((0:Int)≤o4.2)&&decide (o4.2≤((o4.1.take (o4.2).toNat++List.replicate (((o4.1.length:Int)).toNat - (o4.2).toNat) (u0a).zero++o4.1.drop ((o4.2).toNat+(((o4.1.length:Int)).toNat - (o4.2).toNat))).length:Int))) then(some ((o4.1.take (o4.2).toNat++List.replicate (((o4.1.length:Int)).toNat - (o4.2).toNat) (u0a).zero++o4.1.drop ((o4.2).toNat+(((o4.1.length:Int)).toNat - (o4.2).toNat))).take ((o4.2).toNat - ((0:Int)).toNat))) else none) else none) | .inr z5=>none)))
theorem u79:u1w=u3i:=zC 10001 rfl Tryz.func236 (by kernel_rfl)
def u31(x:Z42):Option Z75:=zK 100 x
def r41 (x:Z42):Option Z75:=((u1i x.1).bind fun y1=>((t8w x).bind fun y2=>((u1w (y1.2.1,y2)).bind fun y3=>((s1k (x.1.1,y2)).bind fun y4=>(some (y4,(y3,y1.2.2)))))))
theorem q7a:u31=r41:=zC 100 rfl Tryz.func100 (by kernel_rfl)
def t5x(x:o1i):Option Bool:=zK 258 x
def r1z (x:o1i):Option Bool:=(((bif (!y3c x.2 x.1.1) then(some (y3c x.2 x.1.2 || z7o x.2 x.1.2)) else(some false)):Option Bool).bind fun j1=>(some j1))
theorem q3w:t5x=r1z:=zC 258 rfl Tryz.func258 (by kernel_rfl)
def s1j(x:o1h):Option Bool:=zK 252 x
def t16(g:Z72→Option (o07⊕Bool))(x:Z72):Option (o07⊕Bool):=(bif (decide (x.2.2.2.2.2.2.2<x.2.2.2.2.2.2.1)) then(bif (y4q x.2.2.2.2.2.2.2 x.2.2.2.2.2.1.length) then((t5x (x.2.1,(rdL u2k x.2.2.2.2.2.1 (x.2.2.2.2.2.2.2).toNat).1)).bind fun y1=>(bif y1 then(some (.inr true)) else(g (x.1,(x.2.1,(x.2.2.1,(x.2.2.2.1,(x.2.2.2.2.1,(x.2.2.2.2.2.1,(x.2.2.2.2.2.2.1,(IntKind.i64.wrap (x.2.2.2.2.2.2.2+1)))))))))))) else none) else(some (.inl (x.1,(x.2.2.1,(x.2.2.2.1,x.2.2.2.2.1))))))
def u7w:=lpW _ _ t16
theorem s7n x:u7w x=t16 u7w x:=zW s6t 252 Tryz.f252 5 27 x (by kernel_rfl)
def t15(g:o07→Option s4t)(x:o07):Option s4t:=(bif (decide (x.2.2.2<x.2.2.1)) then(bif (y4q x.2.2.2 x.2.1.length) then((u7w (x.1,((rdL r36 x.2.1 (x.2.2.2).toNat),(x.2.1,(x.2.2.1,(x.2.2.2,(x.1,((x.1.length:Int),0)))))))).bind fun r2=>match r2 with | .inl o3=>(g (o3.1,(o3.2.1,(o3.2.2.1,(IntKind.i64.wrap (o3.2.2.2+1)))))) | .inr z4=>(some (.inr z4))) else none) else(some (.inl ())))
def t2t:=lpW _ _ t15
theorem s7m x:t2t x=t15 t2t x:=zW s6s 252 Tryz.f252 2 27 x (by kernel_rfl)
def r2e (x:o1h):Option Bool:=((t2t (x.2,(x.1,((x.1.length:Int),0)))).bind fun r5=>match r5 with | .inl o6=>(some false) | .inr z7=>(some z7))
theorem q35:s1j=r2e:=zC 252 rfl Tryz.func252 (by kernel_rfl)
def t8t(x:Z36):Option Bool:=zK 442 x
def s8t (x:Z36):Option Bool:=(((bif (decide (x.1.2.1=3)) then(some (decide (x.1.2.2.2.1≤x.2.2.2.1))) else(some false)):Option Bool).bind fun j1=>(some j1))
theorem q1d:t8t=s8t:=zC 442 rfl Tryz.func442 (by kernel_rfl)
def s46(x:Z36):Option Bool:=zK 384 x
def r4v (x:Z36):Option Bool:=(bif (!decide (x.1.1=x.2.1)) then((t8t x).bind fun y1=>(bif (!y1) then((t8t (x.2,x.1)).bind fun y2=>(some (!y2))) else(some false))) else(some false))
theorem q64:s46=r4v:=zC 384 rfl Tryz.func384 (by kernel_rfl)
def s0m(x:Z36):Option Bool:=zK 273 x
def r8e (x:Z36):Option Bool:=((((s46 x).bind fun y1=>(bif y1 then((s1j (x.1.2.2.2.2.1,x.2.2.2.2.2.2.1)).bind fun y2=>(some y2)) else(some false))):Option Bool).bind fun j3=>(some j3))
theorem q9j:s0m=r8e:=zC 273 rfl Tryz.func273 (by kernel_rfl)
def t5y(x:Z36):Option Bool:=zK 386 x
def r12 (x:Z36):Option Bool:=((((t4n x.1).bind fun y1=>(bif y1 then((s0m (x.2,x.1)).bind fun y2=>(some y2)) else(some false))):Option Bool).bind fun j3=>(some j3))
theorem q3x:t5y=r12:=zC 386 rfl Tryz.func386 (by kernel_rfl)
def u30(x:Z62):Option Int:=zK 10009 x
def u3h(g:Z46→Option p00)(x:Z46):Option p00:=(bif (decide (x.2.2.2<x.2.2.1)) then(bif (y4q x.2.2.2 x.1.length) then((t5y ((rdL u0a x.1 (x.2.2.2).toNat),x.2.1)).bind fun y1=>(bif y1 then(some (.inr x.2.2.2)) else(g (x.1,(x.2.1,(x.2.2.1,(IntKind.i64.wrap (x.2.2.2+1)))))))) else none) else(some (.inl ())))
def u1a:=lpW _ _ u3h
theorem u8g x:u1a x=u3h u1a x:=zW u3m 10009 Tryz.f148 2 19 x (by kernel_rfl)
def u3z (x:Z62):Option Int:=((u1a (x.1,(x.2,((x.1.length:Int),0)))).bind fun r2=>match r2 with | .inl o3=>(some (-1:Int)) | .inr z4=>(some z4))
theorem u9a:u30=u3z:=zC 10009 rfl Tryz.func148 (by kernel_rfl)
def u3c(x:Z62):Option Bool:=zK 10008 x
def u27 (x:Z62):Option Bool:=((u30 x).bind fun y1=>(some (decide (y1≥0))))
theorem u7j:u3c=u27:=zC 10008 rfl Tryz.func261 (by kernel_rfl)
def t3o(x:Z62):Option Bool:=zK 10007 x
def t3k (x:Z62):Option Bool:=((u3c x).bind fun y1=>(some y1))
theorem s2w:t3o=t3k:=zC 10007 rfl Tryz.func127 (by kernel_rfl)
def s0o(x:Z60):Option Bool:=zK 278 x
def r8h (x:Z60):Option Bool:=((t3o (x.2,x.1)).bind fun y1=>(some y1))
theorem q9m:s0o=r8h:=zC 278 rfl Tryz.func278 (by kernel_rfl)
def t6z(x:Z29):Option Z75:=zK 146 x
def u8p(g:Z5→Option (Z6⊕Unit))(x:Z5):Option (Z6⊕Unit):=(bif (decide (x.2.2.2.2.2.2.2.2.2<x.2.2.2.2.2.2.2.2.1)) then(bif (y4q x.2.2.2.2.2.2.2.2.2 x.2.2.2.1.2.2.1.length) then(bif (y3c (rdL u0a x.2.2.2.1.2.2.1 (x.2.2.2.2.2.2.2.2.2).toNat).2.2.2.2.2.2.2 x.1) then(bif (Nat.ble (x.2.2.2.2.2.1.length+([(rdL u0a x.2.2.2.1.2.2.1 (x.2.2.2.2.2.2.2.2.2).toNat)] :List u0a.den).length) z7w) then(g (x.1,(x.2.1,(x.2.2.1,(x.2.2.2.1,(x.2.2.2.2.1,((x.2.2.2.2.2.1++([(rdL u0a x.2.2.2.1.2.2.1 (x.2.2.2.2.2.2.2.2.2).toNat)] :List u0a.den)),(x.2.2.2.2.2.2.1,((),(x.2.2.2.2.2.2.2.2.1,(IntKind.i64.wrap (x.2.2.2.2.2.2.2.2.2+1)))))))))))) else none) else(bif (Nat.ble (x.2.2.2.2.2.2.1.length+([(rdL u0a x.2.2.2.1.2.2.1 (x.2.2.2.2.2.2.2.2.2).toNat)] :List u0a.den).length) z7w) then(g (x.1,(x.2.1,(x.2.2.1,(x.2.2.2.1,(x.2.2.2.2.1,(x.2.2.2.2.2.1,((x.2.2.2.2.2.2.1++([(rdL u0a x.2.2.2.1.2.2.1 (x.2.2.2.2.2.2.2.2.2).toNat)] :List u0a.den)),((),(x.2.2.2.2.2.2.2.2.1,(IntKind.i64.wrap (x.2.2.2.2.2.2.2.2.2+1)))))))))))) else none)) else none) else(some (.inl (x.2.1,(x.2.2.1,(x.2.2.2.1,(x.2.2.2.2.1,(x.2.2.2.2.2.1,x.2.2.2.2.2.2.1))))))))
def u4c:=lpW _ _ u8p
theorem s04 x:u4c x=u8p u4c x:=zW s0a 146 Tryz.f146 6 64 x (by kernel_rfl)
def s5y (x:Z29):Option Z75:=((u1i x.1).bind fun y1=>((t1p x.2.1).bind fun y2=>(bif x.2.1.2.2.2.2.2.2.1 then((u4c (x.2.2,(x.2.1,((([] :List u0d.den),(([] :List u0a.den),(([] :List u0a.den),(0,0)))),(y1,((y2.1,(2,(y2.2.2.1,(y2.2.2.2.1,(y2.2.2.2.2.1,(y2.2.2.2.2.2.1,(true,x.2.2))))))),(([] :List u0a.den),(([] :List u0a.den),((),((y1.2.2.1.length:Int),0)))))))))).bind fun r3=>match r3 with | .inl o4=>(bif (Nat.ble (o4.2.2.2.2.1.length+([o4.2.2.2.1] :List u0a.den).length) z7w) then(bif (Nat.ble ((o4.2.2.2.2.1++([o4.2.2.2.1] :List u0a.den)).length+o4.2.2.2.2.2.length) z7w) then(some (o4.2.2.1.1,(o4.2.2.1.2.1,(((o4.2.2.2.2.1++([o4.2.2.2.1] :List u0a.den))++o4.2.2.2.2.2),(o4.2.2.1.2.2.2.1,(y8h o4.2.2.1.2.2.2.2 (IntKind.i64.wrap (o4.1.1+1)))))))) else none) else none) | .inr z5=>none) else((s0o (x.2.1,x.1.2.1)).bind fun y6=>((u4c (x.2.2,(x.2.1,((([] :List u0d.den),(([] :List u0a.den),(([] :List u0a.den),(0,0)))),(y1,((y2.1,(2,(y2.2.2.1,(y2.2.2.2.1,(y2.2.2.2.2.1,(y2.2.2.2.2.2.1,(y6,x.2.2))))))),(([] :List u0a.den),(([] :List u0a.den),((),((y1.2.2.1.length:Int),0)))))))))).bind fun r7=>match r7 with | .inl o8=>(bif (Nat.ble (o8.2.2.2.2.1.length+([o8.2.2.2.1] :List u0a.den).length) z7w) then(bif (Nat.ble ((o8.2.2.2.2.1++([o8.2.2.2.1] :List u0a.den)).length+o8.2.2.2.2.2.length) z7w) then(some (o8.2.2.1.1,(o8.2.2.1.2.1,(((o8.2.2.2.2.1++([o8.2.2.2.1] :List u0a.den))++o8.2.2.2.2.2),(o8.2.2.1.2.2.2.1,(y8h o8.2.2.1.2.2.2.2 (IntKind.i64.wrap (o8.1.1+1)))))))) else none) else none) | .inr z9=>none)))))
theorem r9p:t6z=s5y:=zC 146 rfl Tryz.func146 (by kernel_rfl)
def u2s(x:o3z):Option s5s:=zK 257 x
theorem t7s:∀(x:o3z),u2s x=y2q u0d x:=y6f (P:=Tryz.prog) (A:=A) (f:=257) (F:=y2q u0d) rfl
def t1i(x:Z96):Option Bool:=zK 255 x
def t68 (x:Z96):Option Bool:=((u37 x).bind fun y1=>(some (decide (y1 >0))))
theorem r1n:t1i=t68:=zC 255 rfl Tryz.func255 (by kernel_rfl)
def u1c(x:o3l):Option Int:=zK 10006 x
def u0i(g:o27→Option p00)(x:o27):Option p00:=(bif (decide (x.2.2.2<x.2.2.1)) then(bif (y4q x.2.2.2 x.1.length) then((t1i ((rdL u0d x.1 (x.2.2.2).toNat),x.2.1)).bind fun y1=>(bif y1 then(some (.inr x.2.2.2)) else(g (x.1,(x.2.1,(x.2.2.1,(IntKind.i64.wrap (x.2.2.2+1)))))))) else none) else(some (.inl ())))
def u0j:=lpW _ _ u0i
theorem u10 x:u0j x=u0i u0j x:=zW u1y 10006 Tryz.f254 2 19 x (by kernel_rfl)
def u14 (x:o3l):Option Int:=((u0j (x.1,(x.2,((x.1.length:Int),0)))).bind fun r2=>match r2 with | .inl o3=>(some (-1:Int)) | .inr z4=>(some z4))
theorem u47:u1c=u14:=zC 10006 rfl Tryz.func254 (by kernel_rfl)
def u86(x:o1a):Option s5s:=zK 120 x
def u5u(g:o3k→Option p3w)(x:o3k):Option p3w:=(bif (decide (x.2.2.2.2<x.2.2.2.1)) then(bif (y4q x.2.2.2.2 x.2.2.1.length) then((u1c (x.2.1,((rdL u2k x.2.2.1 (x.2.2.2.2).toNat).1,((rdL u2k x.2.2.1 (x.2.2.2.2).toNat).2.1,((rdL u2k x.2.2.1 (x.2.2.2.2).toNat).2.2,x.1))))).bind fun y1=>(bif (decide (y1<0)) then((u2s (x.2.1,((x.2.1.length:Int),([((rdL u2k x.2.2.1 (x.2.2.2.2).toNat).1,((rdL u2k x.2.2.1 (x.2.2.2.2).toNat).2.1,((rdL u2k x.2.2.1 (x.2.2.2.2).toNat).2.2,x.1)))] :List u0d.den)))).bind fun y2=>(g (x.1,(y2,(x.2.2.1,(x.2.2.2.1,(IntKind.i64.wrap (x.2.2.2.2+1)))))))) else((u2s (x.2.1,(y1,([((rdL u2k x.2.2.1 (x.2.2.2.2).toNat).1,((rdL u2k x.2.2.1 (x.2.2.2.2).toNat).2.1,((rdL u2k x.2.2.1 (x.2.2.2.2).toNat).2.2,x.1)))] :List u0d.den)))).bind fun y3=>(g (x.1,(y3,(x.2.2.1,(x.2.2.2.1,(IntKind.i64.wrap (x.2.2.2.2+1)))))))))) else none) else(some (.inl x.2.1)))
def u5x:=lpW _ _ u5u
theorem t7k x:u5x x=u5u u5x x:=zW t7c 120 Tryz.f120 3 42 x (by kernel_rfl)
def t92 (x:o1a):Option s5s:=(bif (Nat.ble x.1.length z7w) then((u5x (x.2.2,(x.1,(x.2.1,((x.2.1.length:Int),0))))).bind fun r4=>match r4 with | .inl o5=>(some o5) | .inr z6=>none) else none)
theorem r54:u86=t92:=zC 120 rfl Tryz.func120 (by kernel_rfl)
def u5g(x:Z36):Option Bool:=zK 279 x
def r9k (x:Z36):Option Bool:=(some (decide (x.1.1=x.2.1)))
theorem r9u:u5g=r9k:=zC 279 rfl Tryz.func279 (by kernel_rfl)
def u3p(x:Z62):Option Int:=zK 10011 x
def u2w(g:Z46→Option p00)(x:Z46):Option p00:=(bif (decide (x.2.2.2<x.2.2.1)) then(bif (y4q x.2.2.2 x.1.length) then((u5g ((rdL u0a x.1 (x.2.2.2).toNat),x.2.1)).bind fun y1=>(bif y1 then(some (.inr x.2.2.2)) else(g (x.1,(x.2.1,(x.2.2.1,(IntKind.i64.wrap (x.2.2.2+1)))))))) else none) else(some (.inl ())))
def u03:=lpW _ _ u2w
theorem u6w x:u03 x=u2w u03 x:=zW u21 10011 Tryz.f148 2 19 x (by kernel_rfl)
def u3l (x:Z62):Option Int:=((u03 (x.1,(x.2,((x.1.length:Int),0)))).bind fun r2=>match r2 with | .inl o3=>(some (-1:Int)) | .inr z4=>(some z4))
theorem u8c:u3p=u3l:=zC 10011 rfl Tryz.func148 (by kernel_rfl)
def u09(x:Z62):Option r61:=zK 10010 x
def u2o(g:Z46→Option p9g)(x:Z46):Option p9g:=(bif (decide (x.2.2.2<(x.1.length:Int))) then(bif (y4q x.2.2.2 x.1.length) then((u5g ((rdL u0a x.1 (x.2.2.2).toNat),x.2.1)).bind fun y2=>(bif (!y2) then(bif (y4q x.2.2.1 x.1.length) then(g ((x.1.set (x.2.2.1).toNat (rdL u0a x.1 (x.2.2.2).toNat)),(x.2.1,((IntKind.i64.wrap (x.2.2.1+1)),(IntKind.i64.wrap (x.2.2.2+1)))))) else none) else(g (x.1,(x.2.1,(x.2.2.1,(IntKind.i64.wrap (x.2.2.2+1)))))))) else none) else(some (.inl (x.1,x.2.2.1))))
def u0v:=lpW _ _ u2o
theorem u6q x:u0v x=u2o u0v x:=zW u2q 10010 Tryz.f236 5 42 x (by kernel_rfl)
def u29 (x:Z62):Option r61:=((u3p x).bind fun y1=>(bif (decide (y1=(-1:Int))) then(some x.1) else((u0v (x.1,(x.2,(y1,(IntKind.i64.wrap (y1+1)))))).bind fun r3=>match r3 with | .inl o4=>(bif (decide (0≤o4.2)&&decide (o4.2≤(o4.1.length:Int))&&decide ((o4.1.length:Int)≤(o4.1.length:Int))) then(bif (decide (0≤(0:Int))&&decide ((0:Int)≤o4.2)&&decide (o4.2≤((o4.1.take (o4.2).toNat++List.replicate (((o4.1.length:Int)).toNat - (o4.2).toNat) (u0a).zero++o4.1.drop ((o4.2).toNat+(((o4.1.length:Int)).toNat - (o4.2).toNat))).length:Int))) then(some ((o4.1.take (o4.2).toNat++List.replicate (((o4.1.length:Int)).toNat - (o4.2).toNat) (u0a).zero++o4.1.drop ((o4.2).toNat+(((o4.1.length:Int)).toNat - (o4.2).toNat))).take ((o4.2).toNat - ((0:Int)).toNat))) else none) else none) | .inr z5=>none)))
theorem u7l:u09=u29:=zC 10010 rfl Tryz.func236 (by kernel_rfl)
end
end Go.Proofs.YtbkicjpdlchbgaaGreat.Ab
