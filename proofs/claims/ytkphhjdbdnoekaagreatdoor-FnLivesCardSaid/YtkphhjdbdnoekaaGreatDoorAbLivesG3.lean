import Derived.Test.YtkphhjdbdnoekaaGreatDoorAbLivesG2
namespace Go.Proofs.YtkphhjdbdnoekaaGreatDoor.Ab
open Go Tryz Go.IntKind
set_option linter.unusedVariables false
noncomputable section
set_option maxRecDepth 100000
def s2z(x:q3s):Ht d1o:=zK 24 x
def t3t(g:c26->Ht (d9a⊕Unit))(x:c26):Ht (d9a⊕Unit):=cond (decide (x.2.2.2.2.2.2.2<(x.2.2.2.2.1.length:Int))) (cond (y4v x.2.2.2.2.2.2.2 x.2.2.2.2.1.length) (cond (!decide ((rdL (Ty.int .i64) x.2.2.2.2.1 x.2.2.2.2.2.2.2.toNat)=x.2.2.2.2.2.1)) (cond (y4v x.2.2.2.2.2.2.2 x.2.2.2.2.1.length) (cond (Nat.ble (x.2.2.2.2.2.2.1.length+([(rdL (Ty.int .i64) x.2.2.2.2.1 x.2.2.2.2.2.2.2.toNat)]:Ld).length) z7z) (g (x.1,x.2.1,x.2.2.1,x.2.2.2.1,x.2.2.2.2.1,x.2.2.2.2.2.1,x.2.2.2.2.2.2.1++([(rdL (Ty.int .i64) x.2.2.2.2.1 x.2.2.2.2.2.2.2.toNat)]:Ld),i64.wrap (x.2.2.2.2.2.2.2+1))) none) none) (g (x.1,x.2.1,x.2.2.1,x.2.2.2.1,x.2.2.2.2.1,x.2.2.2.2.2.1,x.2.2.2.2.2.2.1,i64.wrap (x.2.2.2.2.2.2.2+1)))) none) (some (.inl (x.1,x.2.1,x.2.2.1,x.2.2.2.1,x.2.2.2.2.2.2.1)))
def u2r:=lpW _ _ t3t
theorem r2f x:u2r x=t3t u2r x:=zW r01 24 f24 34 189 x
def t6q(g:d9a->Ht (d1o⊕Unit))(x:d9a):Ht (d1o⊕Unit):=cond (decide ((x.2.2.1.length:Int)<x.2.1)) ((u2l (x.1,18)).bind fun y2=>cond (decide ((x.2.2.2.2.length:Int)>(0:Int))) ((u2l (y2.2,(x.2.2.2.2.length:Int))).bind fun y3=>cond (y4v y3.1 x.2.2.2.2.length) ((u16 (y3.2,([(⟨#[97]⟩:Hs),(⟨#[98]⟩:Hs),(⟨#[99]⟩:Hs)]:Lg))).bind fun y4=>((cond (decide ((x.2.2.2.2.length:Int)=(0:Int))) (some true) (cond (decide (y2.1<3)) (some (decide ((x.2.2.2.2.length:Int)<(4:Int)))) (some false))):La).bind fun j5=>cond j5 (cond (Nat.ble (x.2.2.1.length+([(1,0,(⟨#[]⟩:Hs),(⟨#[]⟩:Hs),([]:Ld))]:Lk).length) z7z) (cond (Nat.ble (([]:Ld).length+x.2.2.2.2.length) z7z) (cond (Nat.ble ((([]:Ld)++x.2.2.2.2).length+([x.2.2.2.1]:Ld).length) z7z) (g (y4.2,x.2.1,x.2.2.1++([(1,0,(⟨#[]⟩:Hs),(⟨#[]⟩:Hs),([]:Ld))]:Lk),i64.wrap (x.2.2.2.1+1),(([]:Ld)++x.2.2.2.2)++([x.2.2.2.1]:Ld))) none) none) none) (cond (decide (y2.1<6)) (cond (Nat.ble (x.2.2.1.length+([(2,rdL (Ty.int .i64) x.2.2.2.2 y3.1.toNat,y4.1,(⟨#[]⟩:Hs),([]:Ld))]:Lk).length) z7z) (g (y4.2,x.2.1,x.2.2.1++([(2,rdL (Ty.int .i64) x.2.2.2.2 y3.1.toNat,y4.1,(⟨#[]⟩:Hs),([]:Ld))]:Lk),x.2.2.2)) none) (cond (decide (y2.1=6)) (cond (Nat.ble (x.2.2.1.length+([(3,rdL (Ty.int .i64) x.2.2.2.2 y3.1.toNat,(⟨#[97]⟩:Hs),y4.1,([]:Ld))]:Lk).length) z7z) (g (y4.2,x.2.1,x.2.2.1++([(3,rdL (Ty.int .i64) x.2.2.2.2 y3.1.toNat,(⟨#[97]⟩:Hs),y4.1,([]:Ld))]:Lk),x.2.2.2)) none) (cond (decide (y2.1<10)) ((u16 (y4.2,([(⟨#[111,110,101]⟩:Hs),(⟨#[116,119,111]⟩:Hs),(⟨#[116,104,114,101,101]⟩:Hs)]:Lg))).bind fun y6=>cond (Nat.ble (x.2.2.1.length+([(4,rdL (Ty.int .i64) x.2.2.2.2 y3.1.toNat,y4.1,y6.1,([]:Ld))]:Lk).length) z7z) (g (y6.2,x.2.1,x.2.2.1++([(4,rdL (Ty.int .i64) x.2.2.2.2 y3.1.toNat,y4.1,y6.1,([]:Ld))]:Lk),x.2.2.2)) none) (cond (decide (y2.1=10)) (cond (Nat.ble (x.2.2.1.length+([(5,rdL (Ty.int .i64) x.2.2.2.2 y3.1.toNat,y4.1,(⟨#[]⟩:Hs),([]:Ld))]:Lk).length) z7z) (g (y4.2,x.2.1,x.2.2.1++([(5,rdL (Ty.int .i64) x.2.2.2.2 y3.1.toNat,y4.1,(⟨#[]⟩:Hs),([]:Ld))]:Lk),x.2.2.2)) none) (cond (decide (y2.1<14)) (cond (decide (y2.1=13)) ((u16 (y4.2,([(⟨#[112]⟩:Hs),(⟨#[113]⟩:Hs),(⟨#[114]⟩:Hs)]:Lg))).bind fun y7=>cond (Nat.ble (x.2.2.1.length+([(8,rdL (Ty.int .i64) x.2.2.2.2 y3.1.toNat,y7.1,(⟨#[]⟩:Hs),([]:Ld))]:Lk).length) z7z) ((u2r (y7.2,x.2.1,x.2.2.1++([(8,rdL (Ty.int .i64) x.2.2.2.2 y3.1.toNat,y7.1,(⟨#[]⟩:Hs),([]:Ld))]:Lk),x.2.2.2.1,x.2.2.2.2,rdL (Ty.int .i64) x.2.2.2.2 y3.1.toNat,([]:Ld),0)).bind fun|.inl o9=>g o9|.inr z10=>some (.inr ())) none) ((u16 (y4.2,([(⟨#[112]⟩:Hs),(⟨#[113]⟩:Hs),(⟨#[114]⟩:Hs)]:Lg))).bind fun y11=>cond (Nat.ble (x.2.2.1.length+([(6,rdL (Ty.int .i64) x.2.2.2.2 y3.1.toNat,y11.1,(⟨#[]⟩:Hs),([]:Ld))]:Lk).length) z7z) ((u2r (y11.2,x.2.1,x.2.2.1++([(6,rdL (Ty.int .i64) x.2.2.2.2 y3.1.toNat,y11.1,(⟨#[]⟩:Hs),([]:Ld))]:Lk),x.2.2.2.1,x.2.2.2.2,rdL (Ty.int .i64) x.2.2.2.2 y3.1.toNat,([]:Ld),0)).bind fun|.inl o13=>g o13|.inr z14=>some (.inr ())) none)) (cond (decide (y2.1=14)) ((t92 (y4.2,([(9:Int),10,(9:Int)]:Ld))).bind fun y15=>(u16 (y15.2,([(⟨#[112]⟩:Hs),(⟨#[113]⟩:Hs),(⟨#[114]⟩:Hs)]:Lg))).bind fun y16=>cond (Nat.ble (x.2.2.1.length+([(y15.1,0,y16.1,(⟨#[]⟩:Hs),([]:Ld))]:Lk).length) z7z) (g (y16.2,x.2.1,x.2.2.1++([(y15.1,0,y16.1,(⟨#[]⟩:Hs),([]:Ld))]:Lk),x.2.2.2)) none) (cond (decide (y2.1=15)) (cond (Nat.ble (x.2.2.1.length+([(11,0,(⟨#[]⟩:Hs),(⟨#[]⟩:Hs),([]:Ld))]:Lk).length) z7z) (g (y4.2,x.2.1,x.2.2.1++([(11,0,(⟨#[]⟩:Hs),(⟨#[]⟩:Hs),([]:Ld))]:Lk),x.2.2.2)) none) (cond (decide (y2.1=16)) ((s63 (y4.2,3)).bind fun y17=>cond y17.1 ((u2l (y17.2,70)).bind fun y18=>(u2l (y18.2,2)).bind fun y19=>cond (Nat.ble (x.2.2.1.length+([(12,y18.1,(⟨#[]⟩:Hs),(⟨#[]⟩:Hs),([(1:Int),y19.1]:Ld))]:Lk).length) z7z) (g (y19.2,x.2.1,x.2.2.1++([(12,y18.1,(⟨#[]⟩:Hs),(⟨#[]⟩:Hs),([(1:Int),y19.1]:Ld))]:Lk),x.2.2.2.1,([]:Ld))) none) (cond (Nat.ble (x.2.2.1.length+([(7,rdL (Ty.int .i64) x.2.2.2.2 y3.1.toNat,(⟨#[]⟩:Hs),(⟨#[]⟩:Hs),([]:Ld))]:Lk).length) z7z) (g (y17.2,x.2.1,x.2.2.1++([(7,rdL (Ty.int .i64) x.2.2.2.2 y3.1.toNat,(⟨#[]⟩:Hs),(⟨#[]⟩:Hs),([]:Ld))]:Lk),x.2.2.2)) none)) (cond (Nat.ble (x.2.2.1.length+([(2,99,y4.1,(⟨#[]⟩:Hs),([]:Ld))]:Lk).length) z7z) (g (y4.2,x.2.1,x.2.2.1++([(2,99,y4.1,(⟨#[]⟩:Hs),([]:Ld))]:Lk),x.2.2.2)) none)))))))))) none) ((u16 (y2.2,([(⟨#[97]⟩:Hs),(⟨#[98]⟩:Hs),(⟨#[99]⟩:Hs)]:Lg))).bind fun y20=>((cond (decide ((x.2.2.2.2.length:Int)=(0:Int))) (some true) (cond (decide (y2.1<3)) (some (decide ((x.2.2.2.2.length:Int)<(4:Int)))) (some false))):La).bind fun j21=>cond j21 (cond (Nat.ble (x.2.2.1.length+([(1,0,(⟨#[]⟩:Hs),(⟨#[]⟩:Hs),([]:Ld))]:Lk).length) z7z) (cond (Nat.ble (([]:Ld).length+x.2.2.2.2.length) z7z) (cond (Nat.ble ((([]:Ld)++x.2.2.2.2).length+([x.2.2.2.1]:Ld).length) z7z) (g (y20.2,x.2.1,x.2.2.1++([(1,0,(⟨#[]⟩:Hs),(⟨#[]⟩:Hs),([]:Ld))]:Lk),i64.wrap (x.2.2.2.1+1),(([]:Ld)++x.2.2.2.2)++([x.2.2.2.1]:Ld))) none) none) none) (cond (decide (y2.1<6)) (cond (Nat.ble (x.2.2.1.length+([(2,x.2.2.2.1,y20.1,(⟨#[]⟩:Hs),([]:Ld))]:Lk).length) z7z) (g (y20.2,x.2.1,x.2.2.1++([(2,x.2.2.2.1,y20.1,(⟨#[]⟩:Hs),([]:Ld))]:Lk),x.2.2.2)) none) (cond (decide (y2.1=6)) (cond (Nat.ble (x.2.2.1.length+([(3,x.2.2.2.1,(⟨#[97]⟩:Hs),y20.1,([]:Ld))]:Lk).length) z7z) (g (y20.2,x.2.1,x.2.2.1++([(3,x.2.2.2.1,(⟨#[97]⟩:Hs),y20.1,([]:Ld))]:Lk),x.2.2.2)) none) (cond (decide (y2.1<10)) ((u16 (y20.2,([(⟨#[111,110,101]⟩:Hs),(⟨#[116,119,111]⟩:Hs),(⟨#[116,104,114,101,101]⟩:Hs)]:Lg))).bind fun y22=>cond (Nat.ble (x.2.2.1.length+([(4,x.2.2.2.1,y20.1,y22.1,([]:Ld))]:Lk).length) z7z) (g (y22.2,x.2.1,x.2.2.1++([(4,x.2.2.2.1,y20.1,y22.1,([]:Ld))]:Lk),x.2.2.2)) none) (cond (decide (y2.1=10)) (cond (Nat.ble (x.2.2.1.length+([(5,x.2.2.2.1,y20.1,(⟨#[]⟩:Hs),([]:Ld))]:Lk).length) z7z) (g (y20.2,x.2.1,x.2.2.1++([(5,x.2.2.2.1,y20.1,(⟨#[]⟩:Hs),([]:Ld))]:Lk),x.2.2.2)) none) (cond (decide (y2.1<14)) (cond (decide (y2.1=13)) ((u16 (y20.2,([(⟨#[112]⟩:Hs),(⟨#[113]⟩:Hs),(⟨#[114]⟩:Hs)]:Lg))).bind fun y23=>cond (Nat.ble (x.2.2.1.length+([(8,x.2.2.2.1,y23.1,(⟨#[]⟩:Hs),([]:Ld))]:Lk).length) z7z) ((u2r (y23.2,x.2.1,x.2.2.1++([(8,x.2.2.2.1,y23.1,(⟨#[]⟩:Hs),([]:Ld))]:Lk),x.2.2.2.1,x.2.2.2.2,x.2.2.2.1,([]:Ld),0)).bind fun|.inl o25=>g o25|.inr z26=>some (.inr ())) none) ((u16 (y20.2,([(⟨#[112]⟩:Hs),(⟨#[113]⟩:Hs),(⟨#[114]⟩:Hs)]:Lg))).bind fun y27=>cond (Nat.ble (x.2.2.1.length+([(6,x.2.2.2.1,y27.1,(⟨#[]⟩:Hs),([]:Ld))]:Lk).length) z7z) ((u2r (y27.2,x.2.1,x.2.2.1++([(6,x.2.2.2.1,y27.1,(⟨#[]⟩:Hs),([]:Ld))]:Lk),x.2.2.2.1,x.2.2.2.2,x.2.2.2.1,([]:Ld),0)).bind fun|.inl o29=>g o29|.inr z30=>some (.inr ())) none)) (cond (decide (y2.1=14)) ((t92 (y20.2,([(9:Int),10,(9:Int)]:Ld))).bind fun y31=>(u16 (y31.2,([(⟨#[112]⟩:Hs),(⟨#[113]⟩:Hs),(⟨#[114]⟩:Hs)]:Lg))).bind fun y32=>cond (Nat.ble (x.2.2.1.length+([(y31.1,0,y32.1,(⟨#[]⟩:Hs),([]:Ld))]:Lk).length) z7z) (g (y32.2,x.2.1,x.2.2.1++([(y31.1,0,y32.1,(⟨#[]⟩:Hs),([]:Ld))]:Lk),x.2.2.2)) none) (cond (decide (y2.1=15)) (cond (Nat.ble (x.2.2.1.length+([(11,0,(⟨#[]⟩:Hs),(⟨#[]⟩:Hs),([]:Ld))]:Lk).length) z7z) (g (y20.2,x.2.1,x.2.2.1++([(11,0,(⟨#[]⟩:Hs),(⟨#[]⟩:Hs),([]:Ld))]:Lk),x.2.2.2)) none) (cond (decide (y2.1=16)) ((s63 (y20.2,3)).bind fun y33=>cond y33.1 ((u2l (y33.2,70)).bind fun y34=>(u2l (y34.2,2)).bind fun y35=>cond (Nat.ble (x.2.2.1.length+([(12,y34.1,(⟨#[]⟩:Hs),(⟨#[]⟩:Hs),([(1:Int),y35.1]:Ld))]:Lk).length) z7z) (g (y35.2,x.2.1,x.2.2.1++([(12,y34.1,(⟨#[]⟩:Hs),(⟨#[]⟩:Hs),([(1:Int),y35.1]:Ld))]:Lk),x.2.2.2.1,([]:Ld))) none) (cond (Nat.ble (x.2.2.1.length+([(7,x.2.2.2.1,(⟨#[]⟩:Hs),(⟨#[]⟩:Hs),([]:Ld))]:Lk).length) z7z) (g (y33.2,x.2.1,x.2.2.1++([(7,x.2.2.2.1,(⟨#[]⟩:Hs),(⟨#[]⟩:Hs),([]:Ld))]:Lk),x.2.2.2)) none)) (cond (Nat.ble (x.2.2.1.length+([(2,99,y20.1,(⟨#[]⟩:Hs),([]:Ld))]:Lk).length) z7z) (g (y20.2,x.2.1,x.2.2.1++([(2,99,y20.1,(⟨#[]⟩:Hs),([]:Ld))]:Lk),x.2.2.2)) none))))))))))) (some (.inl x.2.2.1))
def u3u:=lpW _ _ t6q
theorem r4q x:u3u x=t6q u3u x:=zW r3u 24 f24 8 189 x
def q1g (x:q3s):Ht d1o:=(s9v x).bind fun y1=>cond (decide ((i64.wrap ((16:Int)+(i64.wrap (Int.tdiv (x.length:Int) (3:Int)))))>74)) ((u3u (y1,74,([]:Lk),1,([]:Ld))).bind fun|.inl o37=>some o37|.inr z38=>none) ((u3u (y1,i64.wrap ((16:Int)+(i64.wrap (Int.tdiv (x.length:Int) (3:Int)))),([]:Lk),1,([]:Ld))).bind fun|.inl o74=>some o74|.inr z75=>none)
theorem p9z:s2z=q1g:=zC 24 func24
def s5w(x:q3s):Ht d1o:=zK 15 x
def r6i (x:q3s):Ht d1o:=(s2z x).bind fun y1=>some y1
theorem p55:s5w=r6i:=zC 15 func15
def q2p(x:Unit):Ht s70:=zK 80 x
def q0c (x:Unit):Ht s70:=(r5d ()).bind fun y1=>some (y1,([]:Lc))
theorem p8s:q2p=q0c:=zC 80 func80
def s8m(x:j1b):Ht Hs:=zK 230 x
theorem p90:∀(x:j1b),s8m x=y9k x:=y6p (P:=Tryz.prog) (A:=A) (f:=230) (F:=y9k) rfl
def p0r(x:Int):Ht r25:=zK 147 x
def s72(g:d86->Ht j84)(x:d86):Ht j84:=cond (decide (x.2.2.2<x.1)) ((s8m ((⟨#[0]⟩:Hs),64)).bind fun y2=>cond (Nat.ble (x.2.2.1.1.length+([y2]:Lg).length) z7z) (g (x.1,x.2.1,(x.2.2.1.1++([y2]:Lg),x.2.2.1.2),i64.wrap (x.2.2.2+1))) none) (some (.inl (x.2.1,x.2.2.1)))
def t4o:=lpW _ _ s72
theorem q2t x:t4o x=s72 t4o x:=zW q1k 147 f147 5 22 x
def q8j (x:Int):Ht r25:=(u0t (x,1,100)).bind fun y1=>cond (!y1) (some ((([]:Lg),([]:Ll)),false)) ((t4o (x,(([]:Lg),([]:Ll)),(([]:Lg),([]:Ll)),0)).bind fun|.inl o4=>some (o4.2,true)|.inr z5=>none)
theorem o5b:p0r=q8j:=zC 147 func147
def r9l(x:Unit):Ht u71:=zK 81 x
def p2n (x:Unit):Ht u71:=(p0r (97:Int)).bind fun y1=>some y1.1
theorem o9p:r9l=p2n:=zC 81 func81
def q6o(x:Unit):Ht Z76:=zK 40 x
def q4t (x:Unit):Ht Z76:=(q2p ()).bind fun y1=>(r9l ()).bind fun y2=>some (y1,y2)
theorem o1y:q6o=q4t:=zC 40 func40
def t78(x:Unit):Ht Z46:=zK 16 x
def q4v (x:Unit):Ht Z46:=(q6o ()).bind fun y1=>some (y1,([]:Lc),([]:Ld),([]:Lg))
theorem o2b:t78=q4v:=zC 16 func16
def u35(x:d1o):Ht Z42:=zK 17 x
def t12(g:Z2->Ht (Z7⊕Z42))(x:Z2):Ht (Z7⊕Z42):=cond (decide (x.2.2.2.2<x.2.2.2.1)) (cond (y4v x.2.2.2.2 x.2.2.1.length) ((u9c (rdL u1a x.2.2.1 x.2.2.2.2.toNat)).bind fun y2=>cond (!y2) (some (.inr (((((([]:Lf),([]:Lc),([]:Lc),0,0),([]:Lc)),([]:Lg),([]:Ll)),([]:Lc),([]:Ld),([]:Lg)),false))) ((t5l (x.2.1,rdL u1a x.2.2.1 x.2.2.2.2.toNat)).bind fun y3=>g (x.1,y3,x.2.2.1,x.2.2.2.1,i64.wrap (x.2.2.2.2+1)))) none) (some (.inl (x.1,x.2.1)))
def t16:=lpW _ _ t12
theorem s52 x:t16 x=t12 t16 x:=zW r65 17 f17 5 27 x
def r0b (x:d1o):Ht Z42:=cond (decide ((x.length:Int)>(90:Int))) (some (((((([]:Lf),([]:Lc),([]:Lc),0,0),([]:Lc)),([]:Lg),([]:Ll)),([]:Lc),([]:Ld),([]:Lg)),false)) ((t78 ()).bind fun y1=>(t16 (((((([]:Lf),([]:Lc),([]:Lc),0,0),([]:Lc)),([]:Lg),([]:Ll)),([]:Lc),([]:Ld),([]:Lg)),y1,x,(x.length:Int),0)).bind fun|.inl o5=>some (o5.2,true)|.inr z6=>some z6)
theorem q51:u35=r0b:=zC 17 func17
def u0q(x:d6y):La:=zK 44 x
def r22 (x:d6y):La:=((cond (decide (x.1>=x.2.1)) (some (decide (x.1<=x.2.2))) (some false)):La).bind fun j1=>some j1
theorem r29:u0q=r22:=zC 44 func44
def t5v(x:d3v):La:=zK 21 x
def r4x (x:d3v):La:=(((u0q (x.1,1,12)).bind fun y1=>cond (!y1) (some true) (cond (decide (x.2.1<0)) (some true) (cond (decide ((x.2.2.1.size:Int)>(6:Int))) (some true) (cond (decide ((x.2.2.2.1.size:Int)>(20:Int))) (some true) (some (decide ((x.2.2.2.2.length:Int)>(10:Int)))))))):La).bind fun j2=>cond j2 (some false) (((cond (decide (x.1=12)) (some true) (some (decide ((x.2.2.2.2.length:Int)=(0:Int))))):La).bind fun j3=>some j3)
theorem p0b:t5v=r4x:=zC 21 func21
def u05(x:t0y):Ht t0y:=zK 125 x
def r4z (x:t0y):Ht t0y:=cond (Nat.ble (([]:Lj).length+x.2.2.2.2.1.length) z7z) (cond (Nat.ble (([]:Lh).length+x.2.2.2.2.2.1.length) z7z) (some (x.1,x.2.1,x.2.2.1,x.2.2.2.1,([]:Lj)++x.2.2.2.2.1,([]:Lh)++x.2.2.2.2.2.1,x.2.2.2.2.2.2)) none) none
theorem p0e:u05=r4z:=zC 125 func125
def s04(x:p1a):Ht p1a:=zK 70 x
def s17(g:d9b->Ht d6v)(x:d9b):Ht d6v:=cond (decide (x.2.2<(x.1.length:Int))) (cond (y4v x.2.2 x.1.length) ((u05 (rdL u0a x.1 x.2.2.toNat)).bind fun y1=>cond (Nat.ble (x.2.1.length+([y1]:Lc).length) z7z) (g (x.1,x.2.1++([y1]:Lc),i64.wrap (x.2.2+1))) none) none) (some (.inl x.2.1))
def s2l:=lpW _ _ s17
theorem q3p x:s2l x=s17 s2l x:=zW q2n 70 f70 3 21 x
def q9x (x:p1a):Ht p1a:=(s2l (x,([]:Lc),0)).bind fun|.inl o3=>some o3|.inr z4=>none
theorem o6q:s04=q9x:=zC 70 func70
def u4b(x:u9r):Ht u9r:=zK 198 x
def q9w (x:u9r):Ht u9r:=cond (Nat.ble (([]:Lf).length+x.1.length) z7z) ((s04 x.2.1).bind fun y1=>(s04 x.2.2.1).bind fun y2=>some (([]:Lf)++x.1,y1,y2,x.2.2.2)) none
theorem o6p:u4b=q9w:=zC 198 func198
def u0s(x:s70):Ht s70:=zK 123 x
def q90 (x:s70):Ht s70:=(u4b x.1).bind fun y1=>(s04 x.2).bind fun y2=>some (y1,y2)
theorem o6t:u0s=q90:=zC 123 func123
def u9g(x:Hs):La:=zK 201 x
def s6a(g:j1b->Ht d90)(x:j1b):Ht d90:=cond (decide (x.2<(x.1.size:Int))) (((cond (y4v x.2 x.1.size) (cond (decide (((x.1.data.toList.getD x.2.toNat 0).toNat:Int)<(97:Int))) (some true) (cond (y4v x.2 x.1.size) (some (decide (((x.1.data.toList.getD x.2.toNat 0).toNat:Int)>(122:Int)))) none)) none):La).bind fun j1=>cond j1 (some (.inr false)) (g (x.1,i64.wrap (x.2+1)))) (some (.inl x.1))
def s6j:=lpW _ _ s6a
theorem p03 x:s6j x=s6a s6j x:=zW p0k 201 f201 2 23 x
def p7h (x:Hs):La:=(s6j (x,0)).bind fun|.inl o3=>((u0q ((o3.size:Int),1,3)).bind fun y4=>some y4)|.inr z5=>some z5
theorem j29:u9g=p7h:=zC 201 func201
def s01(x:d6t):La:=zK 204 x
def q9d (x:d6t):La:=(((u9g x.1).bind fun y1=>cond y1 ((u9g x.2).bind fun y2=>cond y2 (some (y3i x.1 x.2||z7q x.1 x.2)) (some false)) (some false)):La).bind fun j3=>some j3
theorem o57:s01=q9d:=zC 204 func204
def s02(x:d91):La:=zK 206 x
def q9m (x:d91):La:=(((u9g x.1).bind fun y1=>cond y1 (cond (decide ((x.2.1.size:Int)<=(12:Int))) (cond (!x.2.2) (some true) (some (z7q x.2.1 (⟨#[]⟩:Hs)))) (some false)) (some false)):La).bind fun j2=>some j2
theorem o6g:s02=q9m:=zC 206 func206
def s41(x:j1c):La:=zK 277 x
def t9b(g:(j1c×Int)->Ht (j1c⊕Bool))(x:(j1c×Int)):Ht (j1c⊕Bool):=cond (decide (x.2<(x.1.length:Int))) (((cond (y4v x.2 x.1.length) ((s02 (rdL u11 x.1 x.2.toNat)).bind fun y1=>cond (!y1) (some true) (cond (decide (x.2>0)) (cond (y4v (i64.wrap (x.2 - 1)) x.1.length) (cond (y4v x.2 x.1.length) (some (!y3i (rdL u11 x.1 (i64.wrap (x.2 - 1)).toNat).1 (rdL u11 x.1 x.2.toNat).1)) none) none) (some false))) none):La).bind fun j2=>cond j2 (some (.inr false)) (g (x.1,i64.wrap (x.2+1)))) (some (.inl x.1))
def t9t:=lpW _ _ t9b
theorem r8u x:t9t x=t9b t9t x:=zW r7q 277 f277 2 37 x
def q5p (x:j1c):La:=(t9t (x,0)).bind fun|.inl o4=>some (decide ((o4.length:Int)<=(8:Int)))|.inr z5=>some z5
theorem o26:s41=q5p:=zC 277 func277
def u9i(x:t0y):La:=zK 275 x
def s6e(g:j5j->Ht (t0y⊕Bool))(x:j5j):Ht (t0y⊕Bool):=cond (decide (x.2<(x.1.2.2.2.2.1.length:Int))) (cond (y4v x.2 x.1.2.2.2.2.1.length) ((s01 (rdL r2m x.1.2.2.2.2.1 x.2.toNat)).bind fun y6=>cond (!y6) (some (.inr false)) (g (x.1,i64.wrap (x.2+1)))) none) (some (.inl x.1))
def s6m:=lpW _ _ s6e
theorem p07 x:s6m x=s6e s6m x:=zW p0o 275 f275 4 95 x
def p7m (x:t0y):La:=(((u0q (x.1,1,9999)).bind fun y1=>cond (!y1) (some true) ((u0q (x.2.1,1,3)).bind fun y2=>cond (!y2) (some true) ((u0q (x.2.2.1,0,9999)).bind fun y3=>cond (!y3) (some true) (cond (decide ((x.2.2.2.2.1.length:Int)>(8:Int))) (some true) ((s41 x.2.2.2.2.2.1).bind fun y4=>some (!y4)))))):La).bind fun j5=>cond j5 (some false) ((s6m (x,0)).bind fun|.inl o8=>(((cond (decide (o8.2.1=3)) ((u0q (o8.2.2.2.1,i64.wrap (o8.2.2.1+1),9999)).bind fun y9=>cond (!y9) (some true) (cond (!decide (o8.2.1=3)) (some (!decide (o8.2.2.2.1=0))) (some false))) (cond (!decide (o8.2.1=3)) (some (!decide (o8.2.2.2.1=0))) (some false))):La).bind fun j10=>cond j10 (some false) (((cond (decide (o8.2.1=2)) ((u9g o8.2.2.2.2.2.2.2).bind fun y11=>cond (!y11) (some true) (cond (!decide (o8.2.1=2)) (some (!z7q o8.2.2.2.2.2.2.2 (⟨#[]⟩:Hs))) (some false))) (cond (!decide (o8.2.1=2)) (some (!z7q o8.2.2.2.2.2.2.2 (⟨#[]⟩:Hs))) (some false))):La).bind fun j12=>cond j12 (some false) (((cond (!decide (o8.2.1=1)) (some true) (some (!o8.2.2.2.2.2.2.1))):La).bind fun j13=>some j13)))|.inr z14=>some z14)
theorem j3e:u9i=p7m:=zC 275 func275
def s5z(x:o0j):La:=zK 352 x
def t3s(g:d6z->Ht (o0j⊕Bool))(x:d6z):Ht (o0j⊕Bool):=cond (decide (x.2<(x.1.length:Int))) (cond (y4v x.2 x.1.length) ((((u9g (rdL u0f x.1 x.2.toNat).1).bind fun y1=>cond (!y1) (some true) (cond (decide (((rdL u0f x.1 x.2.toNat).2.1.size:Int)>(12:Int))) (some true) (cond (rdL u0f x.1 x.2.toNat).2.2.1 (cond (!z7q (rdL u0f x.1 x.2.toNat).2.1 (⟨#[]⟩:Hs)) (some true) ((u0q ((rdL u0f x.1 x.2.toNat).2.2.2,1,9999)).bind fun y2=>some (!y2))) ((u0q ((rdL u0f x.1 x.2.toNat).2.2.2,1,9999)).bind fun y3=>some (!y3))))):La).bind fun j4=>cond j4 (some (.inr false)) (((cond (decide (x.2>0)) (cond (y4v (i64.wrap (x.2 - 1)) x.1.length) (cond (!(y3i (rdL u0f x.1 (i64.wrap (x.2 - 1)).toNat).1 (rdL u0f x.1 x.2.toNat).1||z7q (rdL u0f x.1 (i64.wrap (x.2 - 1)).toNat).1 (rdL u0f x.1 x.2.toNat).1)) (some true) (cond (y4v (i64.wrap (x.2 - 1)) x.1.length) (cond (z7q (rdL u0f x.1 (i64.wrap (x.2 - 1)).toNat).1 (rdL u0f x.1 x.2.toNat).1) (cond (y4v (i64.wrap (x.2 - 1)) x.1.length) (some (decide ((rdL u0f x.1 (i64.wrap (x.2 - 1)).toNat).2.2.2>=(rdL u0f x.1 x.2.toNat).2.2.2))) none) (some false)) none)) none) (some false)):La).bind fun j5=>cond j5 (some (.inr false)) (g (x.1,i64.wrap (x.2+1))))) none) (some (.inl x.1))
def t32:=lpW _ _ t3s
theorem r2d x:t32 x=t3s t32 x:=zW r0z 352 f352 2 78 x
def r6n (x:o0j):La:=(t32 (x,0)).bind fun|.inl o7=>some (decide ((o7.length:Int)<=(120:Int)))|.inr z8=>some z8
theorem p6a:s5z=r6n:=zC 352 func352
def t05(x:u9r):La:=zK 274 x
def s3w(g:d7m->Ht d4b)(x:d7m):Ht d4b:=cond (decide (x.2<(x.1.1.length:Int))) (cond (y4v x.2 x.1.1.length) (cond (decide ((rdL u0f x.1.1 x.2.toNat).2.2.2>x.1.2.2.2.1)) (some (.inr false)) (g (x.1,i64.wrap (x.2+1)))) none) (some (.inl x.1))
def t7m:=lpW _ _ s3w
theorem q7a x:t7m x=s3w t7m x:=zW q6a 274 f274 4 179 x
def s1n(g:d3s->Ht (d6j⊕Bool))(x:d3s):Ht (d6j⊕Bool):=cond (decide (x.2.2<(x.1.2.1.length:Int))) (cond (y4v x.2.2 x.1.2.1.length) ((((u9i (rdL u0a x.1.2.1 x.2.2.toNat)).bind fun y7=>cond (!y7) (some true) (cond (!decide ((rdL u0a x.1.2.1 x.2.2.toNat).2.1=3)) (some true) (cond (decide ((rdL u0a x.1.2.1 x.2.2.toNat).2.2.2.1>x.1.2.2.2.1)) (some true) (cond (decide (x.2.2>0)) (cond (y4v (i64.wrap (x.2.2 - 1)) x.1.2.1.length) (some (decide ((rdL u0a x.1.2.1 (i64.wrap (x.2.2 - 1)).toNat).2.2.2.1>=(rdL u0a x.1.2.1 x.2.2.toNat).2.2.2.1))) none) (some false))))):La).bind fun j8=>cond j8 (some (.inr false)) (cond (Nat.ble (x.2.1.length+([(rdL u0a x.1.2.1 x.2.2.toNat).1]:Ld).length) z7z) (g (x.1,x.2.1++([(rdL u0a x.1.2.1 x.2.2.toNat).1]:Ld),i64.wrap (x.2.2+1))) none)) none) (some (.inl (x.1,x.2.1)))
def t0b:=lpW _ _ s1n
theorem q25 x:t0b x=s1n t0b x:=zW q1y 274 f274 10 179 x
def s1o(g:d3s->Ht (d6j⊕Bool))(x:d3s):Ht (d6j⊕Bool):=cond (decide (x.2.2<(x.1.2.2.1.length:Int))) (cond (y4v x.2.2 x.1.2.2.1.length) ((((u9i (rdL u0a x.1.2.2.1 x.2.2.toNat)).bind fun y11=>cond (!y11) (some true) (cond (!decide ((rdL u0a x.1.2.2.1 x.2.2.toNat).2.1=2)) (some true) (cond (decide ((rdL u0a x.1.2.2.1 x.2.2.toNat).2.2.1>x.1.2.2.2.1)) (some true) (cond (decide (x.2.2>0)) (cond (y4v (i64.wrap (x.2.2 - 1)) x.1.2.2.1.length) (some (!y3i (rdL u0a x.1.2.2.1 (i64.wrap (x.2.2 - 1)).toNat).2.2.2.2.2.2.2 (rdL u0a x.1.2.2.1 x.2.2.toNat).2.2.2.2.2.2.2)) none) (some false))))):La).bind fun j12=>cond j12 (some (.inr false)) (cond (Nat.ble (x.2.1.length+([(rdL u0a x.1.2.2.1 x.2.2.toNat).1]:Ld).length) z7z) (g (x.1,x.2.1++([(rdL u0a x.1.2.2.1 x.2.2.toNat).1]:Ld),i64.wrap (x.2.2+1))) none)) none) (some (.inl (x.1,x.2.1)))
def t4u:=lpW _ _ s1o
theorem q26 x:t4u x=s1o t4u x:=zW q1z 274 f274 17 179 x
def s1q(g:c2r->Ht (d3s⊕Bool))(x:c2r):Ht (d3s⊕Bool):=cond (decide (x.2.2.2<x.2.2.1)) (cond (y4v x.2.2.2 x.2.1.length) (cond (y4v x.2.2.1 x.2.1.length) (cond (decide ((rdL (Ty.int .i64) x.2.1 x.2.2.2.toNat)=(rdL (Ty.int .i64) x.2.1 x.2.2.1.toNat))) (some (.inr false)) (g (x.1,x.2.1,x.2.2.1,i64.wrap (x.2.2.2+1)))) none) none) (some (.inl (x.1,x.2.1,x.2.2.1)))
def t4v:=lpW _ _ s1q
theorem q28 x:t4v x=s1q t4v x:=zW q11 274 f274 27 179 x
def s1p(g:d3s->Ht r2h)(x:d3s):Ht r2h:=cond (decide (x.2.2<(x.2.1.length:Int))) ((t4v (x.1,x.2.1,x.2.2,0)).bind fun|.inl o16=>cond (y4v o16.2.2 o16.2.1.length) (cond (decide ((rdL (Ty.int .i64) o16.2.1 o16.2.2.toNat)>=o16.1.2.2.2.2)) (some (.inr false)) (g (o16.1,o16.2.1,i64.wrap (o16.2.2+1)))) none|.inr z17=>some (.inr z17)) (some (.inl ()))
def t0c:=lpW _ _ s1p
theorem q27 x:t0c x=s1p t0c x:=zW q10 274 f274 24 179 x
def p2z (x:u9r):La:=(((s5z x.1).bind fun y1=>cond (!y1) (some true) (cond (decide ((x.2.1.length:Int)>(12:Int))) (some true) (cond (decide ((x.2.2.1.length:Int)>(3:Int))) (some true) ((u0q (x.2.2.2.1,0,9999)).bind fun y2=>cond (!y2) (some true) ((u0q (x.2.2.2.2,1,9999)).bind fun y3=>some (!y3)))))):La).bind fun j4=>cond j4 (some false) ((t7m (x,0)).bind fun|.inl o6=>((t0b (o6,([]:Ld),0)).bind fun|.inl o10=>((t4u (o10.1,o10.2,0)).bind fun|.inl o14=>((t0c (o14.1,o14.2,0)).bind fun|.inl o19=>some true|.inr z20=>some z20)|.inr z21=>some z21)|.inr z22=>some z22)|.inr z23=>some z23)
theorem o90:t05=p2z:=zC 274 func274
def r1i(x:s70):La:=zK 199 x
def t6i(g:Z49->Ht (Z52⊕Bool))(x:Z49):Ht (Z52⊕Bool):=cond (decide (x.2.2.2<(x.1.1.2.1.length:Int))) (cond (y4v x.2.2.2 x.1.1.2.1.length) (cond (decide ((rdL u0a x.1.1.2.1 x.2.2.2.toNat).1=x.2.2.1.1)) (some (.inr false)) (g (x.1,x.2.1,x.2.2.1,i64.wrap (x.2.2.2+1)))) none) (some (.inl (x.1,x.2.1,x.2.2.1)))
def t0v:=lpW _ _ t6i
theorem r4i x:t0v x=t6i t0v x:=zW r3m 199 f199 10 105 x
def t6j(g:Z49->Ht (Z97⊕Bool))(x:Z49):Ht (Z97⊕Bool):=cond (decide (x.2.2.2<(x.1.1.2.2.1.length:Int))) (cond (y4v x.2.2.2 x.1.1.2.2.1.length) (cond (decide ((rdL u0a x.1.1.2.2.1 x.2.2.2.toNat).1=x.2.2.1.1)) (some (.inr false)) (g (x.1,x.2.1,x.2.2.1,i64.wrap (x.2.2.2+1)))) none) (some (.inl (x.1,x.2.1)))
def u77:=lpW _ _ t6j
theorem r4j x:u77 x=t6j u77 x:=zW r3n 199 f199 15 105 x
def t80(g:Z97->Ht r2h)(x:Z97):Ht r2h:=cond (decide (x.2<(x.1.2.length:Int))) (cond (y4v x.2 x.1.2.length) ((((u9i (rdL u0a x.1.2 x.2.toNat)).bind fun y3=>cond (!y3) (some true) (cond (!decide ((rdL u0a x.1.2 x.2.toNat).2.1=1)) (some true) (cond (decide ((rdL u0a x.1.2 x.2.toNat).1>=x.1.1.2.2.2.2)) (some true) (cond (decide ((rdL u0a x.1.2 x.2.toNat).2.2.1>x.1.1.2.2.2.1)) (some true) (cond (decide (x.2>0)) (cond (y4v (i64.wrap (x.2 - 1)) x.1.2.length) (some (decide ((rdL u0a x.1.2 (i64.wrap (x.2 - 1)).toNat).1>=(rdL u0a x.1.2 x.2.toNat).1))) none) (some false)))))):La).bind fun j4=>cond j4 (some (.inr false)) ((t0v (x.1,x.2,rdL u0a x.1.2 x.2.toNat,0)).bind fun|.inl o6=>((u77 (o6.1,o6.2.1,o6.2.2,0)).bind fun|.inl o8=>g (o8.1,i64.wrap (o8.2+1))|.inr z9=>some (.inr z9))|.inr z10=>some (.inr z10))) none) (some (.inl ()))
def u9l:=lpW _ _ t80
theorem r8j x:u9l x=t80 u9l x:=zW r7f 199 f199 4 105 x
def q5a (x:s70):La:=(((t05 x.1).bind fun y1=>cond (!y1) (some true) (some (decide ((x.2.length:Int)>(4:Int))))):La).bind fun j2=>cond j2 (some false) ((u9l (x,0)).bind fun|.inl o12=>some true|.inr z13=>some z13)
theorem o2r:r1i=q5a:=zC 199 func199
def q6p(x:s70):Ht Z90:=zK 126 x
def p7f (x:s70):Ht Z90:=(u0s x).bind fun y1=>(((r1i x).bind fun y2=>cond (!y2) (some true) (cond (decide ((x.2.length:Int)>=(4:Int))) (some true) (some (decide (x.1.2.2.2.2>=9999))))):La).bind fun j3=>cond j3 (some (y1,0,3)) (cond (Nat.ble (y1.2.length+([(x.1.2.2.2.2,1,x.1.2.2.2.1,0,([]:Lj),([]:Lh),false,(⟨#[]⟩:Hs))]:Lc).length) z7z) (some (((y1.1.1,y1.1.2.1,y1.1.2.2.1,y1.1.2.2.2.1,i64.wrap (x.1.2.2.2.2+1)),y1.2++([(x.1.2.2.2.2,1,x.1.2.2.2.1,0,([]:Lj),([]:Lh),false,(⟨#[]⟩:Hs))]:Lc)),x.1.2.2.2.2,0)) none)
theorem j26:q6p=p7f:=zC 126 func126
def s2x(x:Int):Li:=zK 200 x
def q1c (x:Int):Li:=cond (decide (x<10)) (some (u8.wrap (i64.wrap ((48:Int)+x)))) (some (u8.wrap (i64.wrap ((i64.wrap ((97:Int)+x)) - 10))))
theorem p9v:s2x=q1c:=zC 200 func200
def r5o(x:Int):Ht Hs:=zK 127 x
def s1s(g:(Int×d92)->Ht (d92⊕Unit))(x:(Int×d92)):Ht (d92⊕Unit):=cond (!decide (x.1=0)) (cond (decide ((Int.tmod x.1 (10:Int))<0)) ((s2x (i64.wrap (0 - (Int.tmod x.1 (10:Int))))).bind fun y1=>cond (decide ((y7s ([y1]:Ld)).size+x.2.2.size<=140737488355328)) (g (i64.wrap (Int.tdiv x.1 (10:Int)),x.2.1,(y7s ([y1]:Ld))++x.2.2)) none) ((s2x (Int.tmod x.1 (10:Int))).bind fun y2=>cond (decide ((y7s ([y2]:Ld)).size+x.2.2.size<=140737488355328)) (g (i64.wrap (Int.tdiv x.1 (10:Int)),x.2.1,(y7s ([y2]:Ld))++x.2.2)) none)) (some (.inl x.2))
def s2e:=lpW _ _ s1s
theorem q3a x:s2e x=s1s s2e x:=zW q14 127 f127 5 30 x
def q87 (x:Int):Ht Hs:=cond (decide (x=0)) (some (⟨#[48]⟩:Hs)) ((s2e (x,decide (x<0),(⟨#[]⟩:Hs))).bind fun|.inl o4=>cond o4.1 (cond (decide ((⟨#[45]⟩:Hs).size+o4.2.size<=140737488355328)) (some ((⟨#[45]⟩:Hs)++o4.2)) none) (some o4.2)|.inr z5=>none)
theorem o51:r5o=q87:=zC 127 func127
def u7l(x:Z97):Li:=zK 137 x
def t7h(g:Z91->Ht r51)(x:Z91):Ht r51:=cond (decide (x.2.2<(x.2.1.2.length:Int))) (cond (y4v x.2.2 x.2.1.2.length) (cond (decide ((rdL u0a x.2.1.2 x.2.2.toNat).1=x.1)) (some (.inr x.2.2)) (g (x.1,x.2.1,i64.wrap (x.2.2+1)))) none) (some (.inl ()))
def t7o:=lpW _ _ t7h
theorem q7e x:t7o x=t7h t7o x:=zW q6e 137 f137 2 22 x
def p26 (x:Z97):Li:=(t7o (x.2,x.1,0)).bind fun|.inl o2=>some (- 1:Int)|.inr z3=>some z3
theorem o97:u7l=p26:=zC 137 func137
def s2v(x:d82):Ht d1k:=zK 202 x
def t6n(g:Z29->Ht (Z32⊕d1k))(x:Z29):Ht (Z32⊕d1k):=cond (decide (x.2.2.2.2<(x.1.2.2.2.2.1.length:Int))) (cond (y4v x.2.2.2.2 x.1.2.2.2.2.1.length) (cond (z7q (rdL r2m x.1.2.2.2.2.1 x.2.2.2.2.toNat).1 x.2.1.1&&(z7q (rdL r2m x.1.2.2.2.2.1 x.2.2.2.2.toNat).2 x.2.1.2&&true)) (some (.inr (x.2.2.2.1,true))) (g (x.1,x.2.1,x.2.2.1,x.2.2.2.1,i64.wrap (x.2.2.2.2+1)))) none) (some (.inl (x.1,x.2.1,x.2.2.1,x.2.2.2.1)))
def t0w:=lpW _ _ t6n
theorem r4n x:t0w x=t6n t0w x:=zW r3r 202 f202 5 51 x
def q07 (x:d82):Ht d1k:=(u05 x.1).bind fun y1=>(((u9i x.1).bind fun y2=>cond (!y2) (some true) (cond (!decide (x.1.2.1=1)) (some true) ((s01 x.2).bind fun y3=>some (!y3)))):La).bind fun j4=>cond j4 (some (y1,false)) ((t0w (x.1,x.2,(0,0,0,0,([]:Lj),([]:Lh),false,(⟨#[]⟩:Hs)),y1,0)).bind fun|.inl o6=>cond (decide ((o6.1.2.2.2.2.1.length:Int)>=(8:Int))) (some (o6.2.2.2,false)) (cond (Nat.ble (o6.2.2.2.2.2.2.2.1.length+([o6.2.1]:Lj).length) z7z) (some ((o6.2.2.2.1,o6.2.2.2.2.1,o6.2.2.2.2.2.1,o6.2.2.2.2.2.2.1,o6.2.2.2.2.2.2.2.1++([o6.2.1]:Lj),o6.2.2.2.2.2.2.2.2),true)) none)|.inr z7=>some z7)
theorem p9q:s2v=q07:=zC 202 func202
def r33(x:d3x):Li:=zK 79 x
def s6f(g:c3x->Ht j7r)(x:c3x):Ht j7r:=cond (decide (x.2.2.2.2<(x.1.length:Int))) (((cond (y4v x.2.2.2.2 x.1.length) (cond (z7q (rdL u0f x.1 x.2.2.2.2.toNat).1 x.2.1) (cond (y4v x.2.2.2.2 x.1.length) (cond (decide ((rdL u0f x.1 x.2.2.2.2.toNat).2.2.2<=x.2.2.1)) (cond (decide (x.2.2.2.1<0)) (some true) (cond (y4v x.2.2.2.2 x.1.length) (cond (y4v x.2.2.2.1 x.1.length) (some (decide ((rdL u0f x.1 x.2.2.2.2.toNat).2.2.2>(rdL u0f x.1 x.2.2.2.1.toNat).2.2.2))) none) none)) (some false)) none) (some false)) none):La).bind fun j1=>cond j1 (g (x.1,x.2.1,x.2.2.1,x.2.2.2.2,i64.wrap (x.2.2.2.2+1))) (g (x.1,x.2.1,x.2.2.1,x.2.2.2.1,i64.wrap (x.2.2.2.2+1)))) (some (.inl x.2.2.2.1))
def s0o:=lpW _ _ s6f
theorem p08 x:s0o x=s6f s0o x:=zW p0p 79 f79 3 50 x
def p7n (x:d3x):Li:=(s0o (x.1,x.2.1,x.2.2,(- 1:Int),0)).bind fun|.inl o3=>some o3|.inr z4=>none
theorem j3f:r33=p7n:=zC 79 func79
def r9x(x:d3x):Ht s9z:=zK 39 x
def p3b (x:d3x):Ht s9z:=(r33 x).bind fun y1=>((cond (decide (y1<0)) (some true) (cond (y4v y1 x.1.length) (some (rdL u0f x.1 y1.toNat).2.2.1) none)):La).bind fun j2=>cond j2 (some ((⟨#[]⟩:Hs),false)) (cond (y4v y1 x.1.length) (some ((rdL u0f x.1 y1.toNat).2.1,true)) none)
theorem j0c:r9x=p3b:=zC 39 func39
def s9t(x:d8z):Ht s9z:=zK 203 x
def t7i(g:c2v->Ht (c20⊕s9z))(x:c2v):Ht (c20⊕s9z):=cond (decide (x.2.2.2<(x.2.2.1.2.2.2.2.2.1.length:Int))) (cond (y4v x.2.2.2 x.2.2.1.2.2.2.2.2.1.length) (cond (z7q (rdL u11 x.2.2.1.2.2.2.2.2.1 x.2.2.2.toNat).1 x.2.1) (cond (y4v x.2.2.2 x.2.2.1.2.2.2.2.2.1.length) (cond (rdL u11 x.2.2.1.2.2.2.2.2.1 x.2.2.2.toNat).2.2 (some (.inr ((⟨#[]⟩:Hs),false))) (cond (y4v x.2.2.2 x.2.2.1.2.2.2.2.2.1.length) (some (.inr ((rdL u11 x.2.2.1.2.2.2.2.2.1 x.2.2.2.toNat).2.1,true))) none)) none) (g (x.1,x.2.1,x.2.2.1,i64.wrap (x.2.2.2+1)))) none) (some (.inl (x.1,x.2.1,x.2.2.1)))
def t7p:=lpW _ _ t7i
theorem q7f x:t7p x=t7i t7p x:=zW q6f 203 f203 2 43 x
def p27 (x:d8z):Ht s9z:=(t7p (x.2.1,x.2.2,x.1,0)).bind fun|.inl o2=>((r9x (o2.1,o2.2.1,o2.2.2.2.2.1)).bind fun y3=>some y3)|.inr z4=>some z4
theorem o98:s9t=p27:=zC 203 func203
def r9u(x:Z84):Ht Z81:=zK 128 x
def p25 (x:Z84):Ht Z81:=(u0s x.1).bind fun y1=>(u7l (x.1,x.2.1)).bind fun y2=>cond (decide (y2<0)) (some (y1,(⟨#[]⟩:Hs),false,1)) ((u9g x.2.2).bind fun y3=>cond (!y3) (some (y1,(⟨#[]⟩:Hs),false,2)) (cond (y4v y2 x.1.2.length) ((s2v (rdL u0a x.1.2 y2.toNat,x.2.2,x.2.2)).bind fun y4=>cond (!y4.2) (some (y1,(⟨#[]⟩:Hs),false,3)) (cond (y4v y2 y1.2.length) ((s9t (y4.1,x.1.1.1,x.2.2)).bind fun y5=>some ((y1.1,y1.2.set y2.toNat y4.1),y5.1,y5.2,0)) none)) none))
theorem o96:r9u=p25:=zC 128 func128
def s6z(x:d9q):La:=zK 78 x
def q89 (x:d9q):La:=((cond (!y3i x.2 x.1.1) (some (y3i x.2 x.1.2||z7q x.2 x.1.2)) (some false)):La).bind fun j1=>some j1
theorem o53:s6z=q89:=zC 78 func78
def r5w(x:c1k):Ht p49:=zK 38 x
def s16(g:d83->Ht (c29⊕Unit))(x:d83):Ht (c29⊕Unit):=cond (decide (x.2.2.2.2.2.2<(x.2.2.1.length:Int))) (cond (y4v x.2.2.2.2.2.2 x.2.2.1.length) (cond (y3i (rdL Ty.str x.2.2.1 x.2.2.2.2.2.2.toNat) x.2.2.2.2.1) (cond (y4v x.2.2.2.2.2.2 x.2.2.1.length) (cond (Nat.ble (x.2.2.2.2.2.1.length+([(rdL Ty.str x.2.2.1 x.2.2.2.2.2.2.toNat)]:Lg).length) z7z) (g (x.1,x.2.1,x.2.2.1,x.2.2.2.1,x.2.2.2.2.1,x.2.2.2.2.2.1++([(rdL Ty.str x.2.2.1 x.2.2.2.2.2.2.toNat)]:Lg),i64.wrap (x.2.2.2.2.2.2+1))) none) none) (g (x.1,x.2.1,x.2.2.1,x.2.2.2.1,x.2.2.2.2.1,x.2.2.2.2.2.1,i64.wrap (x.2.2.2.2.2.2+1)))) none) (some (.inl (x.1,x.2.1,x.2.2.1,x.2.2.2.1,x.2.2.2.2.1,x.2.2.2.2.2.1)))
def t45:=lpW _ _ s16
theorem q3o x:t45 x=s16 t45 x:=zW q2m 38 f38 9 72 x
def t9c(g:d83->Ht (c3n⊕Unit))(x:d83):Ht (c3n⊕Unit):=cond (decide (x.2.2.2.2.2.2<(x.2.2.1.length:Int))) (cond (y4v x.2.2.2.2.2.2 x.2.2.1.length) (cond (!(y3i (rdL Ty.str x.2.2.1 x.2.2.2.2.2.2.toNat) x.2.2.2.2.1||z7q (rdL Ty.str x.2.2.1 x.2.2.2.2.2.2.toNat) x.2.2.2.2.1)) (cond (y4v x.2.2.2.2.2.2 x.2.2.1.length) (cond (Nat.ble (x.2.2.2.2.2.1.length+([(rdL Ty.str x.2.2.1 x.2.2.2.2.2.2.toNat)]:Lg).length) z7z) (g (x.1,x.2.1,x.2.2.1,x.2.2.2.1,x.2.2.2.2.1,x.2.2.2.2.2.1++([(rdL Ty.str x.2.2.1 x.2.2.2.2.2.2.toNat)]:Lg),i64.wrap (x.2.2.2.2.2.2+1))) none) none) (g (x.1,x.2.1,x.2.2.1,x.2.2.2.1,x.2.2.2.2.1,x.2.2.2.2.2.1,i64.wrap (x.2.2.2.2.2.2+1)))) none) (some (.inl (x.1,x.2.1,x.2.2.2.1,x.2.2.2.2.2.1)))
def t2f:=lpW _ _ t9c
theorem r8v x:t2f x=t9c t2f x:=zW r7r 38 f38 15 72 x
def s15(g:c3m->Ht (p49⊕Unit))(x:c3m):Ht (p49⊕Unit):=cond (decide (x.2.2.2<(x.1.length:Int))) (cond (y4v x.2.2.2 x.1.length) ((s6z (x.2.1,(rdL u0f x.1 x.2.2.2.toNat).1)).bind fun y1=>cond (!y1) (g (x.1,x.2.1,x.2.2.1,i64.wrap (x.2.2.2+1))) ((t45 (x.1,x.2.1,x.2.2.1,x.2.2.2,(rdL u0f x.1 x.2.2.2.toNat).1,([]:Lg),0)).bind fun|.inl o3=>cond (Nat.ble (o3.2.2.2.2.2.length+([o3.2.2.2.2.1]:Lg).length) z7z) ((t2f (o3.1,o3.2.1,o3.2.2.1,o3.2.2.2.1,o3.2.2.2.2.1,o3.2.2.2.2.2++([o3.2.2.2.2.1]:Lg),0)).bind fun|.inl o5=>g (o5.1,o5.2.1,o5.2.2.2,i64.wrap (o5.2.2.1+1))|.inr z6=>some (.inr ())) none|.inr z7=>some (.inr ()))) none) (some (.inl x.2.2.1))
def s2k:=lpW _ _ s15
theorem q3n x:s2k x=s15 s2k x:=zW q2l 38 f38 3 72 x
def q9v (x:c1k):Ht p49:=(s2k (x.1,x.2,([]:Lg),0)).bind fun|.inl o9=>some o9|.inr z10=>none
theorem o6o:r5w=q9v:=zC 38 func38
def r5p(x:d8x):Ht d1p:=zK 205 x
def s1v(g:Z85->Ht (Z93⊕Unit))(x:Z85):Ht (Z93⊕Unit):=cond (decide (x.2.2.2.2<(x.2.1.2.2.2.2.2.1.length:Int))) (cond (y4v x.2.2.2.2 x.2.1.2.2.2.2.2.1.length) (cond (Nat.ble (x.2.2.2.1.length+([((rdL u11 x.2.1.2.2.2.2.2.1 x.2.2.2.2.toNat).1,(⟨#[]⟩:Hs),false,0)]:Lf).length) z7z) (g (x.1,x.2.1,x.2.2.1,x.2.2.2.1++([((rdL u11 x.2.1.2.2.2.2.2.1 x.2.2.2.2.toNat).1,(⟨#[]⟩:Hs),false,0)]:Lf),i64.wrap (x.2.2.2.2+1))) none) none) (some (.inl (x.1,x.2.1,x.2.2.1,x.2.2.2.1)))
def t4y:=lpW _ _ s1v
theorem q3c x:t4y x=s1v t4y x:=zW q17 205 f205 3 65 x
def s1w(g:Z94->Ht (d1p⊕Unit))(x:Z94):Ht (d1p⊕Unit):=cond (decide (x.2.2.2.2<(x.2.2.2.1.length:Int))) (cond (y4v x.2.2.2.2 x.2.2.2.1.length) ((s9t (x.2.1,x.1,rdL Ty.str x.2.2.2.1 x.2.2.2.2.toNat)).bind fun y4=>cond y4.2 (cond (y4v x.2.2.2.2 x.2.2.2.1.length) (cond (Nat.ble (x.2.2.1.length+([(rdL Ty.str x.2.2.2.1 x.2.2.2.2.toNat,y4.1)]:Lj).length) z7z) (g (x.1,x.2.1,x.2.2.1++([(rdL Ty.str x.2.2.2.1 x.2.2.2.2.toNat,y4.1)]:Lj),x.2.2.2.1,i64.wrap (x.2.2.2.2+1))) none) none) (g (x.1,x.2.1,x.2.2.1,x.2.2.2.1,i64.wrap (x.2.2.2.2+1)))) none) (some (.inl x.2.2.1))
def s2f:=lpW _ _ s1w
theorem q3d x:s2f x=s1w s2f x:=zW q18 205 f205 9 65 x
def q9a (x:d8x):Ht d1p:=cond (Nat.ble (([]:Lf).length+x.2.1.length) z7z) ((t4y (x.2.1,x.1,x.2.2,([]:Lf)++x.2.1,0)).bind fun|.inl o2=>((r5w (o2.2.2.2,o2.2.2.1)).bind fun y3=>(s2f (o2.1,o2.2.1,([]:Lj),y3,0)).bind fun|.inl o6=>some o6|.inr z7=>none)|.inr z8=>none) none
theorem o54:r5p=q9a:=zC 205 func205
def r1m(x:Z78):Ht Z82:=zK 129 x
def q5j (x:Z78):Ht Z82:=(u0s x.1).bind fun y1=>(u7l (x.1,x.2.1)).bind fun y2=>cond (decide (y2<0)) (some (y1,([]:Lj),1)) ((s01 x.2.2).bind fun y3=>cond (!y3) (some (y1,([]:Lj),2)) (cond (y4v y2 x.1.2.length) ((s2v (rdL u0a x.1.2 y2.toNat,x.2.2)).bind fun y4=>cond (!y4.2) (some (y1,([]:Lj),3)) (cond (y4v y2 y1.2.length) ((r5p (y4.1,x.1.1.1,x.2.2)).bind fun y5=>some ((y1.1,y1.2.set y2.toNat y4.1),y5,0)) none)) none))
theorem o20:r1m=q5j:=zC 129 func129
def r1q(x:d1p):Ht Hs:=zK 130 x
def t9d(g:c4j->Ht d6u)(x:c4j):Ht d6u:=cond (decide (x.2.2<(x.1.length:Int))) (cond (decide (x.2.2>0)) (cond (decide (x.2.1.size+(⟨#[44]⟩:Hs).size<=140737488355328)) (cond (y4v x.2.2 x.1.length) (cond (decide ((x.2.1++(⟨#[44]⟩:Hs)).size+(rdL r2m x.1 x.2.2.toNat).1.size<=140737488355328)) (cond (decide (((x.2.1++(⟨#[44]⟩:Hs))++(rdL r2m x.1 x.2.2.toNat).1).size+(⟨#[61]⟩:Hs).size<=140737488355328)) (cond (y4v x.2.2 x.1.length) (cond (decide ((((x.2.1++(⟨#[44]⟩:Hs))++(rdL r2m x.1 x.2.2.toNat).1)++(⟨#[61]⟩:Hs)).size+(rdL r2m x.1 x.2.2.toNat).2.size<=140737488355328)) (g (x.1,(((x.2.1++(⟨#[44]⟩:Hs))++(rdL r2m x.1 x.2.2.toNat).1)++(⟨#[61]⟩:Hs))++(rdL r2m x.1 x.2.2.toNat).2,i64.wrap (x.2.2+1))) none) none) none) none) none) none) (cond (y4v x.2.2 x.1.length) (cond (decide (x.2.1.size+(rdL r2m x.1 x.2.2.toNat).1.size<=140737488355328)) (cond (decide ((x.2.1++(rdL r2m x.1 x.2.2.toNat).1).size+(⟨#[61]⟩:Hs).size<=140737488355328)) (cond (y4v x.2.2 x.1.length) (cond (decide (((x.2.1++(rdL r2m x.1 x.2.2.toNat).1)++(⟨#[61]⟩:Hs)).size+(rdL r2m x.1 x.2.2.toNat).2.size<=140737488355328)) (g (x.1,((x.2.1++(rdL r2m x.1 x.2.2.toNat).1)++(⟨#[61]⟩:Hs))++(rdL r2m x.1 x.2.2.toNat).2,i64.wrap (x.2.2+1))) none) none) none) none) none)) (some (.inl x.2.1))
def t2g:=lpW _ _ t9d
theorem r8w x:t2g x=t9d t2g x:=zW r7s 130 f130 3 30 x
def q5w (x:d1p):Ht Hs:=(t2g (x,(⟨#[]⟩:Hs),0)).bind fun|.inl o2=>some o2|.inr z3=>none
theorem o3e:r1q=q5w:=zC 130 func130
def r1k(x:d9h):Ht j1c:=zK 276 x
def t82(g:d89->Ht (c3l⊕Unit))(x:d89):Ht (c3l⊕Unit):=cond (decide (x.2.2.2<(x.1.length:Int))) (cond (y4v x.2.2.2 x.1.length) (cond (y3i (rdL u11 x.1 x.2.2.2.toNat).1 x.2.1.1) (cond (y4v x.2.2.2 x.1.length) (cond (Nat.ble (x.2.2.1.length+([(rdL u11 x.1 x.2.2.2.toNat)]:Lh).length) z7z) (g (x.1,x.2.1,x.2.2.1++([(rdL u11 x.1 x.2.2.2.toNat)]:Lh),i64.wrap (x.2.2.2+1))) none) none) (g (x.1,x.2.1,x.2.2.1,i64.wrap (x.2.2.2+1)))) none) (some (.inl (x.1,x.2.1,x.2.2.1)))
def t9q:=lpW _ _ t82
theorem r8l x:t9q x=t82 t9q x:=zW r7h 276 f276 3 56 x
def t83(g:d89->Ht (j1c⊕Unit))(x:d89):Ht (j1c⊕Unit):=cond (decide (x.2.2.2<(x.1.length:Int))) (cond (y4v x.2.2.2 x.1.length) (cond (!(y3i (rdL u11 x.1 x.2.2.2.toNat).1 x.2.1.1||z7q (rdL u11 x.1 x.2.2.2.toNat).1 x.2.1.1)) (cond (y4v x.2.2.2 x.1.length) (cond (Nat.ble (x.2.2.1.length+([(rdL u11 x.1 x.2.2.2.toNat)]:Lh).length) z7z) (g (x.1,x.2.1,x.2.2.1++([(rdL u11 x.1 x.2.2.2.toNat)]:Lh),i64.wrap (x.2.2.2+1))) none) none) (g (x.1,x.2.1,x.2.2.1,i64.wrap (x.2.2.2+1)))) none) (some (.inl x.2.2.1))
def t9r:=lpW _ _ t83
theorem r8m x:t9r x=t83 t9r x:=zW r7i 276 f276 9 56 x
def q5e (x:d9h):Ht j1c:=(t9q (x.1,x.2,([]:Lh),0)).bind fun|.inl o2=>cond (Nat.ble (o2.2.2.length+([o2.2.1]:Lh).length) z7z) ((t9r (o2.1,o2.2.1,o2.2.2++([o2.2.1]:Lh),0)).bind fun|.inl o4=>some o4|.inr z5=>none) none|.inr z6=>none
theorem o2v:r1k=q5e:=zC 276 func276
def r1p(x:d80):Ht d1k:=zK 207 x
def q5o (x:d80):Ht d1k:=(u05 x.1).bind fun y1=>(((u9i x.1).bind fun y2=>cond (!y2) (some true) (cond (!decide (x.1.2.1=1)) (some true) ((s02 x.2).bind fun y3=>some (!y3)))):La).bind fun j4=>cond j4 (some (y1,false)) ((r1k (x.1.2.2.2.2.2.1,x.2)).bind fun y5=>(s41 y5).bind fun y6=>cond (!y6) ((u05 x.1).bind fun y7=>some (y7,false)) (some ((y1.1,y1.2.1,y1.2.2.1,y1.2.2.2.1,y1.2.2.2.2.1,y5,y1.2.2.2.2.2.2),true)))
theorem o24:r1p=q5o:=zC 207 func207
def s9u(x:Z73):Ht Z97:=zK 131 x
def p29 (x:Z73):Ht Z97:=(u0s x.1).bind fun y1=>(u7l (x.1,x.2.1)).bind fun y2=>cond (decide (y2<0)) (some (y1,1)) ((s02 x.2.2).bind fun y3=>cond (!y3) (some (y1,2)) (cond (y4v y2 x.1.2.length) ((r1p (rdL u0a x.1.2 y2.toNat,x.2.2)).bind fun y4=>cond (!y4.2) (some (y1,3)) (cond (y4v y2 y1.2.length) (some ((y1.1,y1.2.set y2.toNat y4.1),0)) none)) none))
theorem j0a:s9u=p29:=zC 131 func131
def t1g(x:Z25):Ht Z37:=zK 71 x
def q95 (x:Z25):Ht Z37:=cond (decide (x.2.1=1)) ((q6p x.1.1.1).bind fun y1=>cond (!decide (y1.2.2=0)) (some (y1.2.2,(⟨#[]⟩:Hs),(y1.1,x.1.1.2),x.1.2)) ((r5o y1.2.1).bind fun y2=>some (0,y2,(y1.1,x.1.1.2),x.1.2))) (cond (decide (x.2.1=2)) ((r9u (x.1.1.1,x.2.2.1,x.2.2.2.1)).bind fun y3=>((cond (decide (y3.2.2.2=0)) (some (!y3.2.2.1)) (some false)):La).bind fun j4=>cond j4 (some (y3.2.2.2,(⟨#[45]⟩:Hs),(y3.1,x.1.1.2),x.1.2)) (some (y3.2.2.2,y3.2.1,(y3.1,x.1.1.2),x.1.2))) (cond (decide (x.2.1=3)) ((r1m (x.1.1.1,x.2.2.1,x.2.2.2.1,x.2.2.2.2.1)).bind fun y5=>(r1q y5.2.1).bind fun y6=>some (y5.2.2,y6,(y5.1,x.1.1.2),x.1.2)) (cond (decide (x.2.1=4)) ((s9u (x.1.1.1,x.2.2.1,x.2.2.2.1,x.2.2.2.2.1,false)).bind fun y7=>some (y7.2,(⟨#[]⟩:Hs),(y7.1,x.1.1.2),x.1.2)) ((s9u (x.1.1.1,x.2.2.1,x.2.2.2.1,(⟨#[]⟩:Hs),true)).bind fun y8=>some (y8.2,(⟨#[]⟩:Hs),(y8.1,x.1.1.2),x.1.2)))))
theorem o6y:t1g=q95:=zC 71 func71
def u0y(x:u71):Ht u71:=zK 124 x
def q9r (x:u71):Ht u71:=cond (Nat.ble (([]:Lg).length+x.1.length) z7z) (cond (Nat.ble (([]:Ll).length+x.2.length) z7z) (some (([]:Lg)++x.1,([]:Ll)++x.2)) none) none
theorem o6k:u0y=q9r:=zC 124 func124
def r5y(x:Z76):Ht Z76:=zK 69 x
def q92 (x:Z76):Ht Z76:=(u0s x.1).bind fun y1=>(u0y x.2).bind fun y2=>some (y1,y2)
theorem o6v:r5y=q92:=zC 69 func69
def r5m(x:Unit):Ht u9r:=zK 210 x
def r4v (x:Unit):Ht u9r:=some (([]:Lf),([]:Lc),([]:Lc),0,1)
theorem q99:r5m=r4v:=zC 210 func210
def t0k(x:Int):Li:=zK 294 x
def q00 (x:Int):Li:=(u0q (x,0,1)).bind fun y1=>cond (!y1) (some (0:Int)) (some (i64.wrap ((1:Int)+(i64.wrap (x*48)))))
theorem p9j:t0k=q00:=zC 294 func294
def u9o(x:o4r):Ht s9z:=zK 363 x
def t3q(g:c35->Ht (c4d⊕s9z))(x:c35):Ht (c4d⊕s9z):=cond (decide (x.2.2>=0)) (cond (y4v x.2.2 x.2.1.2.length) (cond (decide ((rdL s5e x.2.1.2 x.2.2.toNat).1=x.1)) (cond (y4v x.2.2 x.2.1.2.length) (some (.inr ((rdL s5e x.2.1.2 x.2.2.toNat).2,true))) none) (g (x.1,x.2.1,i64.wrap (x.2.2 - 1)))) none) (some (.inl (x.1,x.2.1)))
def t3z:=lpW _ _ t3q
theorem r2b x:t3z x=t3q t3z x:=zW r0x 363 f363 4 41 x
def r6k (x:o4r):Ht s9z:=(u0q (x.2,0,i64.wrap ((x.1.1.length:Int) - (1:Int)))).bind fun y1=>cond (!y1) (some ((⟨#[]⟩:Hs),false)) ((t3z (x.2,x.1,i64.wrap ((x.1.2.length:Int) - (1:Int)))).bind fun|.inl o3=>cond (y4v o3.1 o3.2.1.length) (some (rdL Ty.str o3.2.1 o3.1.toNat,true)) none|.inr z4=>some z4)
theorem p57:u9o=r6k:=zC 363 func363
def s03(x:o4r):Li:=zK 297 x
def q9s (x:o4r):Li:=(u9o x).bind fun y1=>((cond (!y1.2) (some true) (some (z7q y1.1 (⟨#[]⟩:Hs)))):La).bind fun j2=>cond j2 (some (0:Int)) (cond (y4v (0:Int) y1.1.size) (some (i64.wrap ((y1.1.data.toList.getD (0:Int).toNat 0).toNat:Int))) none)
theorem o6l:s03=q9s:=zC 297 func297
def t5u(x:o4r):Li:=zK 223 x
def q86 (x:o4r):Li:=(u0q (x.2,0,1)).bind fun y1=>cond (!y1) (some (0:Int)) ((t0k x.2).bind fun y2=>(s03 (x.1,y2)).bind fun y3=>some y3)
theorem o50:t5u=q86:=zC 223 func223
def s5y(x:d1z):Ht s9z:=zK 293 x
def t3r(g:c3q->Ht (Hs⊕s9z))(x:c3q):Ht (Hs⊕s9z):=cond (decide (x.2.2.2.2<x.2.1)) (((cond (decide (x.1<0)) (some true) (some (decide (x.1>(x.2.2.1.1.length:Int))))):La).bind fun j2=>cond j2 (some (.inr ((⟨#[]⟩:Hs),false))) ((u9o (x.2.2.1,i64.wrap (x.1+x.2.2.2.2))).bind fun y3=>cond (!y3.2) (some (.inr ((⟨#[]⟩:Hs),false))) (cond (decide (x.2.2.2.1.size+y3.1.size<=140737488355328)) (g (x.1,x.2.1,x.2.2.1,x.2.2.2.1++y3.1,i64.wrap (x.2.2.2.2+1))) none))) (some (.inl x.2.2.2.1))
def t30:=lpW _ _ t3r
theorem r2c x:t30 x=t3r t30 x:=zW r0y 293 f293 5 43 x
def r6m (x:d1z):Ht s9z:=(u0q (x.2.2,0,100)).bind fun y1=>cond (!y1) (some ((⟨#[]⟩:Hs),false)) ((t30 (x.2.1,x.2.2,x.1,(⟨#[]⟩:Hs),0)).bind fun|.inl o5=>some (o5,true)|.inr z6=>some z6)
theorem p59:s5y=r6m:=zC 293 func293
def u2a(x:Int):Ht Hs:=zK 298 x
def q36(g:d4f->Ht (d4f⊕Unit))(x:d4f):Ht (d4f⊕Unit):=cond (decide (x.1>127)) (cond (Nat.ble (x.2.length+([(u8.wrap (i64.wrap ((Int.tmod x.1 (128:Int))+128)))]:Ld).length) z7z) (g (i64.wrap (Int.tdiv x.1 (128:Int)),x.2++([(u8.wrap (i64.wrap ((Int.tmod x.1 (128:Int))+128)))]:Ld))) none) (some (.inl x))
def s39:=lpW _ _ q36
theorem o4p x:s39 x=q36 s39 x:=zW q6i 298 f298 2 22 x
def p3e (x:Int):Ht Hs:=(s39 (x,([]:Ld))).bind fun|.inl o2=>cond (Nat.ble (o2.2.length+([(u8.wrap o2.1)]:Ld).length) z7z) (some (y7s (o2.2++([(u8.wrap o2.1)]:Ld)))) none|.inr z3=>none
theorem j0f:u2a=p3e:=zC 298 func298
def s61(x:j1b):Ht d4g:=zK 364 x
def s1z(g:c4g->Ht (Unit⊕d4g))(x:c4g):Ht (Unit⊕d4g):=((cond (decide (x.2.2.2.2<(x.1.size:Int))) (some (decide (x.2.2.2.2<(i64.wrap (x.2.1+5))))) (some false)):La).bind fun j2=>cond j2 (cond (y4v x.2.2.2.2 x.1.size) (cond (y4v x.2.2.2.2 x.1.size) (cond (decide (((x.1.data.toList.getD x.2.2.2.2.toNat 0).toNat:Int)<(128:Int))) (((cond (decide ((i64.wrap (x.2.2.1+(i64.wrap ((Int.tmod (i64.wrap ((x.1.data.toList.getD x.2.2.2.2.toNat 0).toNat:Int)) (128:Int))*x.2.2.2.1))))>1000000000)) (some true) ((u2a (i64.wrap (x.2.2.1+(i64.wrap ((Int.tmod (i64.wrap ((x.1.data.toList.getD x.2.2.2.2.toNat 0).toNat:Int)) (128:Int))*x.2.2.2.1))))).bind fun y3=>cond (decide (0<=x.2.1)&&decide (x.2.1<=(i64.wrap (x.2.2.2.2+1)))&&decide ((i64.wrap (x.2.2.2.2+1))<=(x.1.size:Int))) (some (!z7q y3 (x.1.extract x.2.1.toNat (i64.wrap (x.2.2.2.2+1)).toNat))) none)):La).bind fun j4=>cond j4 (some (.inr (0,0,false))) (some (.inr (i64.wrap (x.2.2.1+(i64.wrap ((Int.tmod (i64.wrap ((x.1.data.toList.getD x.2.2.2.2.toNat 0).toNat:Int)) (128:Int))*x.2.2.2.1))),i64.wrap (x.2.2.2.2+1),true)))) (g (x.1,x.2.1,i64.wrap (x.2.2.1+(i64.wrap ((Int.tmod (i64.wrap ((x.1.data.toList.getD x.2.2.2.2.toNat 0).toNat:Int)) (128:Int))*x.2.2.2.1))),i64.wrap (x.2.2.2.1*128),i64.wrap (x.2.2.2.2+1)))) none) none) (some (.inl ()))
def s2g:=lpW _ _ s1z
theorem q3g x:s2g x=s1z s2g x:=zW q2b 364 f364 6 58 x
def q9f (x:j1b):Ht d4g:=(u0q (x.2,0,(x.1.size:Int))).bind fun y1=>cond (!y1) (some (0,0,false)) ((s2g (x.1,x.2,0,1,x.2)).bind fun|.inl o6=>some (0,0,false)|.inr z7=>some z7)
theorem o59:s61=q9f:=zC 364 func364
def s2w(x:j1b):Ht p2a:=zK 295 x
def q08 (x:j1b):Ht p2a:=(s61 x).bind fun y1=>((cond (!y1.2.2) (some true) (cond (decide (y1.1>20000)) (some true) (some (decide (y1.1>(i64.wrap ((x.1.size:Int) - y1.2.1))))))):La).bind fun j2=>cond j2 (some ((⟨#[]⟩:Hs),0,false)) (cond (decide (0<=y1.2.1)&&decide (y1.2.1<=(i64.wrap (y1.2.1+y1.1)))&&decide ((i64.wrap (y1.2.1+y1.1))<=(x.1.size:Int))) (some (x.1.extract y1.2.1.toNat (i64.wrap (y1.2.1+y1.1)).toNat,i64.wrap (y1.2.1+y1.1),true)) none)
theorem p9r:s2w=q08:=zC 295 func295
def t2v(x:o4r):Ht (p49×d52):=zK 216 x
def t6m(g:c25->Ht d9x)(x:c25):Ht d9x:=(t5u (x.2.1,x.1)).bind fun y4=>cond (decide (x.2.2.2.2.2.2<y4)) ((s2w (x.2.2.2.1,x.2.2.2.2.2.1)).bind fun y5=>((cond (!y5.2.2) (some true) (some (z7q y5.1 (⟨#[]⟩:Hs)))):La).bind fun j6=>cond j6 (some (.inr (x.2.2.1,0,false))) (cond (Nat.ble (x.2.2.2.2.1.length+([y5.1]:Lg).length) z7z) (g (x.1,x.2.1,x.2.2.1,x.2.2.2.1,x.2.2.2.2.1++([y5.1]:Lg),y5.2.1,i64.wrap (x.2.2.2.2.2.2+1))) none)) (some (.inl (x.2.2.2.2.1,x.2.2.2.2.2.1)))
def t6w:=lpW _ _ t6m
theorem r4m x:t6w x=t6m t6w x:=zW r3q 216 f216 10 61 x
def q5f (x:o4r):Ht (p49×d52):=(u0q (x.2,0,1)).bind fun y1=>cond (!y1) (some (([]:Lg),0,false)) ((t0k x.2).bind fun y2=>(s5y (x.1,i64.wrap (y2+1),47)).bind fun y3=>cond (!y3.2) (some (([]:Lg),0,false)) ((t6w (x.2,x.1,([]:Lg),y3.1,([]:Lg),0,0)).bind fun|.inl o8=>some (o8.1,o8.2,true)|.inr z9=>some z9))
theorem o2w:t2v=q5f:=zC 216 func216
def t2u(x:u71):Li:=zK 218 x
def q48 (x:u71):Li:=(s03 (x,0)).bind fun y1=>some (Int.tmod y1 (2:Int))
theorem o2p:t2u=q48:=zC 218 func218
def t8b(x:u71):Ht p49:=zK 211 x
def q5c (x:u71):Ht p49:=(t2u x).bind fun y1=>(t2v (x,y1)).bind fun y2=>some y2.1
theorem o2t:t8b=q5c:=zC 211 func211
def s44(x:t0y):La:=zK 353 x
def q5u (x:t0y):La:=((cond (decide (x.1=0)) (cond (decide (x.2.1=0)) (cond (decide (x.2.2.1=0)) (cond (decide (x.2.2.2.1=0)) (cond (decide ((x.2.2.2.2.1.length:Int)=(0:Int))) (cond (decide ((x.2.2.2.2.2.1.length:Int)=(0:Int))) (cond (!x.2.2.2.2.2.2.1) (some (z7q x.2.2.2.2.2.2.2 (⟨#[]⟩:Hs))) (some false)) (some false)) (some false)) (some false)) (some false)) (some false)) (some false)):La).bind fun j1=>some j1
theorem o3c:s44=q5u:=zC 353 func353
def s8l(x:u9r):La:=zK 354 x
def q1d (x:u9r):La:=((cond (decide (x.2.2.2.1=0)) (cond (decide (x.2.2.2.2=0)) (cond (decide ((x.1.length:Int)=(0:Int))) (cond (decide ((x.2.1.length:Int)=(0:Int))) (some (decide ((x.2.2.1.length:Int)=(0:Int)))) (some false)) (some false)) (some false)) (some false)):La).bind fun j1=>some j1
theorem p9w:s8l=q1d:=zC 354 func354
def s4y(x:Z57):La:=zK 278 x
def q5h (x:Z57):La:=(u0q (x.1,1,4)).bind fun y1=>cond (!y1) (some false) (((cond (decide (x.1=1)) (some true) (some (decide (x.1=2)))):La).bind fun j2=>((cond j2 ((u9i x.2.1).bind fun y3=>cond (!y3) (some true) (cond (!j2) ((s44 x.2.1).bind fun y4=>cond (!y4) (some true) (cond (decide (x.1=1)) (cond (!decide (x.2.1.2.1=3)) (some true) (cond (decide (x.1=2)) (some (!decide (x.2.1.2.1=2))) (some false))) (cond (decide (x.1=2)) (some (!decide (x.2.1.2.1=2))) (some false)))) (cond (decide (x.1=1)) (cond (!decide (x.2.1.2.1=3)) (some true) (cond (decide (x.1=2)) (some (!decide (x.2.1.2.1=2))) (some false))) (cond (decide (x.1=2)) (some (!decide (x.2.1.2.1=2))) (some false))))) (cond (!j2) ((s44 x.2.1).bind fun y5=>cond (!y5) (some true) (cond (decide (x.1=1)) (cond (!decide (x.2.1.2.1=3)) (some true) (cond (decide (x.1=2)) (some (!decide (x.2.1.2.1=2))) (some false))) (cond (decide (x.1=2)) (some (!decide (x.2.1.2.1=2))) (some false)))) (cond (decide (x.1=1)) (cond (!decide (x.2.1.2.1=3)) (some true) (cond (decide (x.1=2)) (some (!decide (x.2.1.2.1=2))) (some false))) (cond (decide (x.1=2)) (some (!decide (x.2.1.2.1=2))) (some false))))):La).bind fun j6=>cond j6 (some false) (((cond (decide (x.1=3)) ((u9g x.2.2.1).bind fun y7=>cond (!y7) (some true) (cond (!decide (x.1=3)) (cond (!z7q x.2.2.1 (⟨#[]⟩:Hs)) (some true) (some x.2.2.2.1)) (some false))) (cond (!decide (x.1=3)) (cond (!z7q x.2.2.1 (⟨#[]⟩:Hs)) (some true) (some x.2.2.2.1)) (some false))):La).bind fun j8=>cond j8 (some false) (cond (decide (x.1=4)) ((t05 x.2.2.2.2).bind fun y9=>some y9) ((s8l x.2.2.2.2).bind fun y10=>some y10))))
theorem o2y:s4y=q5h:=zC 278 func278
def s64(x:Int):Ht Hs:=zK 355 x
def q9q (x:Int):Ht Hs:=some (y7s ([u8.wrap (Int.fdiv x (2^(min (24:Int).toNat u32.bits))),u8.wrap (Int.fdiv x (2^(min (16:Int).toNat u32.bits))),u8.wrap (Int.fdiv x (2^(min (8:Int).toNat u32.bits))),u8.wrap x]:Ld))
theorem p0c:s64=q9q:=zC 355 func355
def r5r(x:d93):Li:=zK 388 x
def r96(g:d9y->Ht (d4h⊕Unit))(x:d9y):Ht (d4h⊕Unit):=cond (decide (x.2.2.2<8)) (cond (decide ((Int.tmod x.1 (2:Int))=1)) (g (u32.wrap ((BitVec.ofInt u32.bits (u32.wrap (Int.tdiv x.1 (2:Int)))^^^BitVec.ofInt u32.bits (3558460437:Int)).toNat:Int),x.2.1,x.2.2.1,i64.wrap (x.2.2.2+1))) (g (u32.wrap (Int.tdiv x.1 (2:Int)),x.2.1,x.2.2.1,i64.wrap (x.2.2.2+1)))) (some (.inl (x.1,x.2.1,x.2.2.1)))
def s2i:=lpW _ _ r96
theorem p97 x:s2i x=r96 s2i x:=zW q2e 388 f388 6 33 x
def s10(g:d4h->Ht j7r)(x:d4h):Ht j7r:=cond (decide (x.2.2<(x.2.1.size:Int))) (cond (y4v x.2.2 x.2.1.size) ((s2i (u32.wrap ((BitVec.ofInt u32.bits x.1^^^BitVec.ofInt u32.bits (u32.wrap ((x.2.1.data.toList.getD x.2.2.toNat 0).toNat:Int))).toNat:Int),x.2.1,x.2.2,0)).bind fun|.inl o2=>g (o2.1,o2.2.1,i64.wrap (o2.2.2+1))|.inr z3=>some (.inr ())) none) (some (.inl x.1))
def s2h:=lpW _ _ s10
theorem q3i x:s2h x=s10 s2h x:=zW q2d 388 f388 2 33 x
def q9h (x:d93):Li:=(s2h (x.1,x.2,0)).bind fun|.inl o5=>some o5|.inr z6=>none
theorem o6b:r5r=q9h:=zC 388 func388
def r32(x:Hs):Li:=zK 356 x
def q5l (x:Hs):Li:=(r5r (4294967295,x)).bind fun y1=>some y1
theorem p7w:r32=q5l:=zC 356 func356
def s40(x:Hs):Ht s9z:=zK 279 x
def p3a (x:Hs):Ht s9z:=cond (decide ((x.size:Int)>(20000:Int))) (some ((⟨#[]⟩:Hs),false)) ((r32 x).bind fun y1=>(s64 y1).bind fun y2=>cond (decide (x.size+y2.size<=140737488355328)) (some (x++y2,true)) none)
theorem j0b:s40=p3a:=zC 279 func279
def u4a(x:Hs):Ht Hs:=zK 280 x
def q5t (x:Hs):Ht Hs:=(u2a (x.size:Int)).bind fun y1=>cond (decide (y1.size+x.size<=140737488355328)) (some (y1++x)) none
theorem o3b:u4a=q5t:=zC 280 func280
def t93(x:Bool):Ht Hs:=zK 281 x
def p3g (x:Bool):Ht Hs:=cond x (some (⟨#[1]⟩:Hs)) (some (⟨#[0]⟩:Hs))
theorem j0h:t93=p3g:=zC 281 func281
def s62(x:t0y):Ht s9z:=zK 283 x
def s14(g:d84->Ht (j9r⊕Unit))(x:d84):Ht (j9r⊕Unit):=cond (decide (x.2.2<(x.1.2.2.2.2.1.length:Int))) (cond (y4v x.2.2 x.1.2.2.2.2.1.length) ((u4a (rdL r2m x.1.2.2.2.2.1 x.2.2.toNat).1).bind fun y7=>cond (decide (x.2.1.size+y7.size<=140737488355328)) (cond (y4v x.2.2 x.1.2.2.2.2.1.length) ((u4a (rdL r2m x.1.2.2.2.2.1 x.2.2.toNat).2).bind fun y8=>cond (decide ((x.2.1++y7).size+y8.size<=140737488355328)) (g (x.1,(x.2.1++y7)++y8,i64.wrap (x.2.2+1))) none) none) none) none) (some (.inl (x.1,x.2.1)))
def t43:=lpW _ _ s14
theorem q3m x:t43 x=s14 t43 x:=zW q2i 283 f283 5 101 x
def t9a(g:d84->Ht (j9r⊕Unit))(x:d84):Ht (j9r⊕Unit):=cond (decide (x.2.2<(x.1.2.2.2.2.2.1.length:Int))) (cond (y4v x.2.2 x.1.2.2.2.2.2.1.length) ((u4a (rdL u11 x.1.2.2.2.2.2.1 x.2.2.toNat).1).bind fun y12=>cond (decide (x.2.1.size+y12.size<=140737488355328)) (cond (y4v x.2.2 x.1.2.2.2.2.2.1.length) ((u4a (rdL u11 x.1.2.2.2.2.2.1 x.2.2.toNat).2.1).bind fun y13=>cond (decide ((x.2.1++y12).size+y13.size<=140737488355328)) (cond (y4v x.2.2 x.1.2.2.2.2.2.1.length) ((t93 (rdL u11 x.1.2.2.2.2.2.1 x.2.2.toNat).2.2).bind fun y14=>cond (decide (((x.2.1++y12)++y13).size+y14.size<=140737488355328)) (g (x.1,((x.2.1++y12)++y13)++y14,i64.wrap (x.2.2+1))) none) none) none) none) none) none) (some (.inl (x.1,x.2.1)))
def t2e:=lpW _ _ t9a
theorem r8t x:t2e x=t9a t2e x:=zW r7p 283 f283 10 101 x
def q9l (x:t0y):Ht s9z:=(u9i x).bind fun y1=>cond (!y1) (some ((⟨#[]⟩:Hs),false)) ((u2a x.1).bind fun y2=>(u2a x.2.1).bind fun y3=>cond (decide (y2.size+y3.size<=140737488355328)) ((u2a x.2.2.1).bind fun y4=>cond (decide ((y2++y3).size+y4.size<=140737488355328)) ((u2a x.2.2.2.1).bind fun y5=>cond (decide (((y2++y3)++y4).size+y5.size<=140737488355328)) ((u2a (x.2.2.2.2.1.length:Int)).bind fun y6=>cond (decide ((((y2++y3)++y4)++y5).size+y6.size<=140737488355328)) ((t43 (x,(((y2++y3)++y4)++y5)++y6,0)).bind fun|.inl o10=>((u2a (o10.1.2.2.2.2.2.1.length:Int)).bind fun y11=>cond (decide (o10.2.size+y11.size<=140737488355328)) ((t2e (o10.1,o10.2++y11,0)).bind fun|.inl o16=>((t93 o16.1.2.2.2.2.2.2.1).bind fun y17=>cond (decide (o16.2.size+y17.size<=140737488355328)) ((u4a o16.1.2.2.2.2.2.2.2).bind fun y18=>cond (decide ((o16.2++y17).size+y18.size<=140737488355328)) (some ((o16.2++y17)++y18,true)) none) none)|.inr z19=>none) none)|.inr z20=>none) none) none) none) none)
theorem o6f:s62=q9l:=zC 283 func283
def s66(x:p1a):Ht Hs:=zK 357 x
def s18(g:c30->Ht d6u)(x:c30):Ht d6u:=cond (decide (x.2.2<(x.1.length:Int))) (cond (y4v x.2.2 x.1.length) ((s62 (rdL u0a x.1 x.2.2.toNat)).bind fun y2=>cond (decide (x.2.1.size+y2.1.size<=140737488355328)) (g (x.1,x.2.1++y2.1,i64.wrap (x.2.2+1))) none) none) (some (.inl x.2.1))
def t47:=lpW _ _ s18
theorem q3q x:t47 x=s18 t47 x:=zW q2o 357 f357 3 28 x
def q9z (x:p1a):Ht Hs:=(u2a (x.length:Int)).bind fun y1=>(t47 (x,y1,0)).bind fun|.inl o4=>some o4|.inr z5=>none
theorem o6s:s66=q9z:=zC 357 func357
def r1h(x:u9r):Ht s9z:=zK 282 x
def t8z(g:c2x->Ht (d1j⊕Unit))(x:c2x):Ht (d1j⊕Unit):=cond (decide (x.2.2<(x.1.1.length:Int))) (cond (y4v x.2.2 x.1.1.length) ((u4a (rdL u0f x.1.1 x.2.2.toNat).1).bind fun y5=>cond (decide (x.2.1.size+y5.size<=140737488355328)) ((u4a (rdL u0f x.1.1 x.2.2.toNat).2.1).bind fun y6=>cond (decide ((x.2.1++y5).size+y6.size<=140737488355328)) ((t93 (rdL u0f x.1.1 x.2.2.toNat).2.2.1).bind fun y7=>cond (decide (((x.2.1++y5)++y6).size+y7.size<=140737488355328)) ((u2a (rdL u0f x.1.1 x.2.2.toNat).2.2.2).bind fun y8=>cond (decide ((((x.2.1++y5)++y6)++y7).size+y8.size<=140737488355328)) (g (x.1,(((x.2.1++y5)++y6)++y7)++y8,i64.wrap (x.2.2+1))) none) none) none) none) none) (some (.inl (x.1,x.2.1)))
def t19:=lpW _ _ t8z
theorem r8i x:t19 x=t8z t19 x:=zW r7e 282 f282 5 60 x
def q49 (x:u9r):Ht s9z:=(t05 x).bind fun y1=>cond (!y1) (some ((⟨#[]⟩:Hs),false)) ((u2a x.2.2.2.1).bind fun y2=>(u2a x.2.2.2.2).bind fun y3=>cond (decide (y2.size+y3.size<=140737488355328)) ((u2a (x.1.length:Int)).bind fun y4=>cond (decide ((y2++y3).size+y4.size<=140737488355328)) ((t19 (x,(y2++y3)++y4,0)).bind fun|.inl o10=>((s66 o10.1.2.1).bind fun y11=>cond (decide (o10.2.size+y11.size<=140737488355328)) ((s66 o10.1.2.2.1).bind fun y12=>cond (decide ((o10.2++y11).size+y12.size<=140737488355328)) (some ((o10.2++y11)++y12,true)) none) none)|.inr z13=>none) none) none)
theorem o2q:r1h=q49:=zC 282 func282
def u40(x:Z57):Ht s9z:=zK 208 x
def r6l (x:Z57):Ht s9z:=(s4y x).bind fun y1=>cond (!y1) (some ((⟨#[]⟩:Hs),false)) (cond (decide (x.1=3)) ((u4a x.2.2.1).bind fun y2=>cond (decide ((y7s ([(u8.wrap x.1)]:Ld)).size+y2.size<=140737488355328)) ((t93 x.2.2.2.1).bind fun y3=>cond (decide (((y7s ([(u8.wrap x.1)]:Ld))++y2).size+y3.size<=140737488355328)) ((s40 (((y7s ([(u8.wrap x.1)]:Ld))++y2)++y3)).bind fun y4=>some y4) none) none) (cond (decide (x.1=4)) ((r1h x.2.2.2.2).bind fun y5=>cond (decide ((y7s ([(u8.wrap x.1)]:Ld)).size+y5.1.size<=140737488355328)) ((s40 ((y7s ([(u8.wrap x.1)]:Ld))++y5.1)).bind fun y6=>some y6) none) ((s62 x.2.1).bind fun y7=>cond (decide ((y7s ([(u8.wrap x.1)]:Ld)).size+y7.1.size<=140737488355328)) ((s40 ((y7s ([(u8.wrap x.1)]:Ld))++y7.1)).bind fun y8=>some y8) none)))
theorem p58:u40=r6l:=zC 208 func208
def r1n(x:Hs):Ht s9z:=zK 286 x
def q5m (x:Hs):Ht s9z:=((cond (decide ((i64.wrap ((x.size:Int) - (4:Int)))<0)) (some true) (cond (decide ((i64.wrap ((x.size:Int) - (4:Int)))>20000)) (some true) (cond (decide (0<=(i64.wrap ((x.size:Int) - (4:Int))))&&decide ((i64.wrap ((x.size:Int) - (4:Int)))<=(x.size:Int))&&decide ((x.size:Int)<=(x.size:Int))) (cond (decide (0<=(0:Int))&&decide ((0:Int)<=(i64.wrap ((x.size:Int) - (4:Int))))&&decide ((i64.wrap ((x.size:Int) - (4:Int)))<=(x.size:Int))) ((r32 (x.extract (0:Int).toNat (i64.wrap ((x.size:Int) - (4:Int))).toNat)).bind fun y1=>(s64 y1).bind fun y2=>some (!z7q (x.extract (i64.wrap ((x.size:Int) - (4:Int))).toNat (x.size:Int).toNat) y2)) none) none))):La).bind fun j3=>cond j3 (some ((⟨#[]⟩:Hs),false)) (cond (decide (0<=(0:Int))&&decide ((0:Int)<=(i64.wrap ((x.size:Int) - (4:Int))))&&decide ((i64.wrap ((x.size:Int) - (4:Int)))<=(x.size:Int))) (some (x.extract (0:Int).toNat (i64.wrap ((x.size:Int) - (4:Int))).toNat,true)) none)
theorem o22:r1n=q5m:=zC 286 func286
def u2e(x:p2a):Ht d9o:=zK 287 x
def r0h (x:p2a):Ht d9o:=(s2w (x.1,x.2.1)).bind fun y1=>((cond x.2.2 (some true) (some (!y1.2.2))):La).bind fun j2=>cond j2 (some ((⟨#[]⟩:Hs),x.1,x.2.1,true)) (some (y1.1,x.1,y1.2.1,x.2.2))
theorem p1l:u2e=r0h:=zC 287 func287
def u9q(x:p2a):Ht (Bool×p2a):=zK 288 x
def r6q (x:p2a):Ht (Bool×p2a):=((cond x.2.2 (some true) (cond (decide (x.2.1>=(x.1.size:Int))) (some true) (cond (y4v x.2.1 x.1.size) (some (decide (((x.1.data.toList.getD x.2.1.toNat 0).toNat:Int)>(1:Int)))) none))):La).bind fun j1=>cond j1 (some (false,x.1,x.2.1,true)) (cond (y4v (i64.wrap ((i64.wrap (x.2.1+1)) - 1)) x.1.size) (some (decide (((x.1.data.toList.getD (i64.wrap ((i64.wrap (x.2.1+1)) - 1)).toNat 0).toNat:Int)=(1:Int)),x.1,i64.wrap (x.2.1+1),x.2.2)) none)
theorem p6d:u9q=r6q:=zC 288 func288
def u3g(x:p2a):Ht (Int×p2a):=zK 359 x
def p3h (x:p2a):Ht (Int×p2a):=(s61 (x.1,x.2.1)).bind fun y1=>((cond x.2.2 (some true) (some (!y1.2.2))):La).bind fun j2=>cond j2 (some (0,x.1,x.2.1,true)) (some (y1.1,x.1,y1.2.1,x.2.2))
theorem j0i:u3g=p3h:=zC 359 func359
def s60(x:j1b):Ht c3a:=zK 290 x
def s1y(g:Z58->Ht (Z63⊕Unit))(x:Z58):Ht (Z63⊕Unit):=((cond (decide (x.2.2.2.2<x.2.2.2.1)) (cond (decide (x.2.2.2.2<10)) (some (!x.2.1.2.2)) (some false)) (some false)):La).bind fun j6=>cond j6 ((u2e x.2.1).bind fun y7=>(u2e y7.2).bind fun y8=>cond (Nat.ble (x.2.2.1.2.2.2.2.1.length+([(y7.1,y8.1)]:Lj).length) z7z) (g (x.1,y8.2,(x.2.2.1.1,x.2.2.1.2.1,x.2.2.1.2.2.1,x.2.2.1.2.2.2.1,x.2.2.1.2.2.2.2.1++([(y7.1,y8.1)]:Lj),x.2.2.1.2.2.2.2.2),x.2.2.2.1,i64.wrap (x.2.2.2.2+1))) none) (some (.inl (x.1,x.2.1,x.2.2.1)))
def t4z:=lpW _ _ s1y
theorem q3f x:t4z x=s1y t4z x:=zW q2a 290 f290 8 115 x
def t85(g:Z58->Ht (Z63⊕Unit))(x:Z58):Ht (Z63⊕Unit):=((cond (decide (x.2.2.2.2<x.2.2.2.1)) (cond (decide (x.2.2.2.2<10)) (some (!x.2.1.2.2)) (some false)) (some false)):La).bind fun j12=>cond j12 ((u2e x.2.1).bind fun y13=>(u2e y13.2).bind fun y14=>(u9q y14.2).bind fun y15=>cond (Nat.ble (x.2.2.1.2.2.2.2.2.1.length+([(y13.1,y14.1,y15.1)]:Lh).length) z7z) (g (x.1,y15.2,(x.2.2.1.1,x.2.2.1.2.1,x.2.2.1.2.2.1,x.2.2.1.2.2.2.1,x.2.2.1.2.2.2.2.1,x.2.2.1.2.2.2.2.2.1++([(y13.1,y14.1,y15.1)]:Lh),x.2.2.1.2.2.2.2.2.2),x.2.2.2.1,i64.wrap (x.2.2.2.2+1))) none) (some (.inl (x.1,x.2.1,x.2.2.1)))
def t2b:=lpW _ _ t85
theorem r8o x:t2b x=t85 t2b x:=zW r7k 290 f290 15 115 x
def q9e (x:j1b):Ht c3a:=(u3g (x.1,x.2,false)).bind fun y1=>(u3g y1.2).bind fun y2=>(u3g y2.2).bind fun y3=>(u3g y3.2).bind fun y4=>(u3g y4.2).bind fun y5=>(t4z ((0,0,0,0,([]:Lj),([]:Lh),false,(⟨#[]⟩:Hs)),y5.2,(y1.1,y2.1,y3.1,y4.1,([]:Lj),([]:Lh),false,(⟨#[]⟩:Hs)),y5.1,0)).bind fun|.inl o10=>((u3g o10.2.1).bind fun y11=>(t2b (o10.1,y11.2,o10.2.2,y11.1,0)).bind fun|.inl o17=>((u9q o17.2.1).bind fun y18=>(u2e y18.2).bind fun y19=>((cond y19.2.2.2 (some true) ((u9i (o17.2.2.1,o17.2.2.2.1,o17.2.2.2.2.1,o17.2.2.2.2.2.1,o17.2.2.2.2.2.2.1,o17.2.2.2.2.2.2.2.1,y18.1,y19.1)).bind fun y20=>some (!y20))):La).bind fun j21=>cond j21 (some ((0,0,0,0,([]:Lj),([]:Lh),false,(⟨#[]⟩:Hs)),0,false)) (some ((o17.2.2.1,o17.2.2.2.1,o17.2.2.2.2.1,o17.2.2.2.2.2.1,o17.2.2.2.2.2.2.1,o17.2.2.2.2.2.2.2.1,y18.1,y19.1),y19.2.2.1,true)))|.inr z22=>none)|.inr z23=>none
theorem o58:s60=q9e:=zC 290 func290
def t69(x:(p2a×Int)):Ht c3r:=zK 360 x
def u6b(g:c3h->Ht (d9f⊕d9f))(x:c3h):Ht (d9f⊕d9f):=((cond (decide (x.2.2.2.2<x.2.2.2.1)) (cond (decide (x.2.2.2.2<=x.2.1)) (some (!x.1.2.2)) (some false)) (some false)):La).bind fun j2=>cond j2 ((s60 (x.1.1,x.1.2.1)).bind fun y3=>cond (!y3.2.2) (some (.inr ((x.1.1,x.1.2.1,true),x.2.2.1))) (cond (Nat.ble (x.2.2.1.length+([y3.1]:Lc).length) z7z) (g ((x.1.1,y3.2.1,x.1.2.2),x.2.1,x.2.2.1++([y3.1]:Lc),x.2.2.2.1,i64.wrap (x.2.2.2.2+1))) none)) (some (.inl (x.1,x.2.2.1)))
def u8v:=lpW _ _ u6b
theorem t1z x:u8v x=u6b u8v x:=zW s83 360 f360 4 59 x
def r23 (x:(p2a×Int)):Ht c3r:=(u3g x.1).bind fun y1=>(u8v (y1.2,x.2,([]:Lc),y1.1,0)).bind fun|.inl o5=>some (o5.2,o5.1)|.inr z6=>some (z6.2,z6.1)
theorem p37:t69=r23:=zC 360 func360
def r1l(x:j1b):Ht c2y:=zK 289 x
def t84(g:Z41->Ht (Z50⊕Unit))(x:Z41):Ht (Z50⊕Unit):=((cond (decide (x.2.2.2.2<x.2.2.2.1)) (cond (decide (x.2.2.2.2<130)) (some (!x.2.1.2.2)) (some false)) (some false)):La).bind fun j4=>cond j4 ((u2e x.2.1).bind fun y5=>(u2e y5.2).bind fun y6=>(u9q y6.2).bind fun y7=>(u3g y7.2).bind fun y8=>cond (Nat.ble (x.2.2.1.1.length+([(y5.1,y6.1,y7.1,y8.1)]:Lf).length) z7z) (g (x.1,y8.2,(x.2.2.1.1++([(y5.1,y6.1,y7.1,y8.1)]:Lf),x.2.2.1.2),x.2.2.2.1,i64.wrap (x.2.2.2.2+1))) none) (some (.inl (x.1,x.2.1,x.2.2.1)))
def t2a:=lpW _ _ t84
theorem r8n x:t2a x=t84 t2a x:=zW r7j 289 f289 6 79 x
def q5g (x:j1b):Ht c2y:=(u3g (x.1,x.2,false)).bind fun y1=>(u3g y1.2).bind fun y2=>(u3g y2.2).bind fun y3=>(t2a ((([]:Lf),([]:Lc),([]:Lc),0,0),y3.2,(([]:Lf),([]:Lc),([]:Lc),y1.1,y2.1),y3.1,0)).bind fun|.inl o10=>((t69 (o10.2.1,12)).bind fun y11=>(t69 (y11.2,3)).bind fun y12=>((cond y12.2.2.2 (some true) ((t05 (o10.2.2.1,y11.1,y12.1,o10.2.2.2.2.2)).bind fun y13=>some (!y13))):La).bind fun j14=>cond j14 (some ((([]:Lf),([]:Lc),([]:Lc),0,0),0,false)) (some ((o10.2.2.1,y11.1,y12.1,o10.2.2.2.2.2),y12.2.2.1,true)))|.inr z15=>none
theorem o2x:r1l=q5g:=zC 289 func289
def s5x(x:Hs):Ht Z54:=zK 212 x
def r6j (x:Hs):Ht Z54:=(r1n x).bind fun y1=>((cond (!y1.2) (some true) (some (z7q y1.1 (⟨#[]⟩:Hs)))):La).bind fun j2=>cond j2 (some ((0,(0,0,0,0,([]:Lj),([]:Lh),false,(⟨#[]⟩:Hs)),(⟨#[]⟩:Hs),false,([]:Lf),([]:Lc),([]:Lc),0,0),false)) (cond (y4v (0:Int) y1.1.size) (cond (decide ((i64.wrap ((y1.1.data.toList.getD (0:Int).toNat 0).toNat:Int))=3)) ((u2e (y1.1,1,false)).bind fun y3=>(u9q y3.2).bind fun y4=>(u40 (i64.wrap ((y1.1.data.toList.getD (0:Int).toNat 0).toNat:Int),(0,0,0,0,([]:Lj),([]:Lh),false,(⟨#[]⟩:Hs)),y3.1,y4.1,([]:Lf),([]:Lc),([]:Lc),0,0)).bind fun y5=>((cond (!y5.2) (some true) (some (!z7q y5.1 x))):La).bind fun j6=>cond j6 (some ((0,(0,0,0,0,([]:Lj),([]:Lh),false,(⟨#[]⟩:Hs)),(⟨#[]⟩:Hs),false,([]:Lf),([]:Lc),([]:Lc),0,0),false)) (some ((i64.wrap ((y1.1.data.toList.getD (0:Int).toNat 0).toNat:Int),(0,0,0,0,([]:Lj),([]:Lh),false,(⟨#[]⟩:Hs)),y3.1,y4.1,([]:Lf),([]:Lc),([]:Lc),0,0),true))) (cond (decide ((i64.wrap ((y1.1.data.toList.getD (0:Int).toNat 0).toNat:Int))=4)) ((r1l (y1.1,1)).bind fun y7=>(u40 (i64.wrap ((y1.1.data.toList.getD (0:Int).toNat 0).toNat:Int),(0,0,0,0,([]:Lj),([]:Lh),false,(⟨#[]⟩:Hs)),(⟨#[]⟩:Hs),false,y7.1)).bind fun y8=>((cond (!y8.2) (some true) (some (!z7q y8.1 x))):La).bind fun j9=>cond j9 (some ((0,(0,0,0,0,([]:Lj),([]:Lh),false,(⟨#[]⟩:Hs)),(⟨#[]⟩:Hs),false,([]:Lf),([]:Lc),([]:Lc),0,0),false)) (some ((i64.wrap ((y1.1.data.toList.getD (0:Int).toNat 0).toNat:Int),(0,0,0,0,([]:Lj),([]:Lh),false,(⟨#[]⟩:Hs)),(⟨#[]⟩:Hs),false,y7.1),true))) ((s60 (y1.1,1)).bind fun y10=>(u40 (i64.wrap ((y1.1.data.toList.getD (0:Int).toNat 0).toNat:Int),y10.1,(⟨#[]⟩:Hs),false,([]:Lf),([]:Lc),([]:Lc),0,0)).bind fun y11=>((cond (!y11.2) (some true) (some (!z7q y11.1 x))):La).bind fun j12=>cond j12 (some ((0,(0,0,0,0,([]:Lj),([]:Lh),false,(⟨#[]⟩:Hs)),(⟨#[]⟩:Hs),false,([]:Lf),([]:Lc),([]:Lc),0,0),false)) (some ((i64.wrap ((y1.1.data.toList.getD (0:Int).toNat 0).toNat:Int),y10.1,(⟨#[]⟩:Hs),false,([]:Lf),([]:Lc),([]:Lc),0,0),true))))) none)
theorem p56:s5x=r6j:=zC 212 func212
def u2d(x:d1j):Li:=zK 142 x
def t4k(g:c2w->Ht r51)(x:c2w):Ht r51:=cond (decide (x.2.2<(x.2.1.2.2.1.length:Int))) (cond (y4v x.2.2 x.2.1.2.2.1.length) (cond (z7q (rdL u0a x.2.1.2.2.1 x.2.2.toNat).2.2.2.2.2.2.2 x.1) (some (.inr x.2.2)) (g (x.1,x.2.1,i64.wrap (x.2.2+1)))) none) (some (.inl ()))
def t40:=lpW _ _ t4k
theorem q3h x:t40 x=t4k t40 x:=zW q2c 142 f142 2 22 x
def q9g (x:d1j):Li:=(t40 (x.2,x.1,0)).bind fun|.inl o2=>some (- 1:Int)|.inr z3=>some z3
theorem o6a:u2d=q9g:=zC 142 func142
def r9r(x:Z79):La:=zK 390 x
def p20 (x:Z79):La:=cond (decide (x.1.1=x.2.1)) (some false) (((cond (decide (x.1.2.1=3)) (cond (decide (x.1.2.2.2.1<=x.2.2.2.1)) (some true) (cond (decide (x.2.2.1=3)) (some (decide (x.2.2.2.2.1<=x.1.2.2.1))) (some false))) (cond (decide (x.2.2.1=3)) (some (decide (x.2.2.2.2.1<=x.1.2.2.1))) (some false))):La).bind fun j1=>cond j1 (some false) (some true))
theorem o91:r9r=p20:=zC 390 func390
def r5s(x:d9p):La:=zK 391 x
def s12(g:c33->Ht (d9l⊕Bool))(x:c33):Ht (d9l⊕Bool):=cond (decide (x.2.2.2<(x.2.1.length:Int))) (cond (y4v x.2.2.1 x.1.length) (cond (y4v x.2.2.2 x.2.1.length) ((s6z (rdL r2m x.1 x.2.2.1.toNat,(rdL u11 x.2.1 x.2.2.2.toNat).1)).bind fun y1=>cond y1 (some (.inr true)) (g (x.1,x.2.1,x.2.2.1,i64.wrap (x.2.2.2+1)))) none) none) (some (.inl (x.1,x.2.1,x.2.2.1)))
def t41:=lpW _ _ s12
theorem q3k x:t41 x=s12 t41 x:=zW q2g 391 f391 5 29 x
def s11(g:d9l->Ht r2h)(x:d9l):Ht r2h:=cond (decide (x.2.2<(x.1.length:Int))) ((t41 (x.1,x.2.1,x.2.2,0)).bind fun|.inl o3=>g (o3.1,o3.2.1,i64.wrap (o3.2.2+1))|.inr z4=>some (.inr z4)) (some (.inl ()))
def s2j:=lpW _ _ s11
theorem q3j x:s2j x=s11 s2j x:=zW q2f 391 f391 2 29 x
def q9j (x:d9p):La:=(s2j (x.1,x.2,0)).bind fun|.inl o6=>some false|.inr z7=>some z7
theorem o6d:r5s=q9j:=zC 391 func391
def u31(x:Z79):La:=zK 370 x
def p7e (x:Z79):La:=(((r9r x).bind fun y1=>cond y1 ((r5s (x.1.2.2.2.2.1,x.2.2.2.2.2.2.1)).bind fun y2=>some y2) (some false)):La).bind fun j3=>some j3
theorem j25:u31=p7e:=zC 370 func370
def s7q(x:o07):La:=zK 368 x
def s6d(g:d1i->Ht r2h)(x:d1i):Ht r2h:=cond (decide (x.2.2<(x.1.length:Int))) (((cond (y4v x.2.2 x.1.length) (cond (decide ((rdL u0a x.1 x.2.2.toNat).2.1=3)) (cond (y4v x.2.2 x.1.length) ((u31 (x.2.1,rdL u0a x.1 x.2.2.toNat)).bind fun y1=>some y1) none) (some false)) none):La).bind fun j2=>cond j2 (some (.inr true)) (g (x.1,x.2.1,i64.wrap (x.2.2+1)))) (some (.inl ()))
def s6l:=lpW _ _ s6d
theorem p06 x:s6l x=s6d s6l x:=zW p0n 368 f368 2 26 x
def p7l (x:o07):La:=(s6l (x.2,x.1,0)).bind fun|.inl o4=>some false|.inr z5=>some z5
theorem j3d:s7q=p7l:=zC 368 func368
def t67(x:d9k):Ht o0j:=zK 369 x
def t1t(g:d8y->Ht (d8y⊕Unit))(x:d8y):Ht (d8y⊕Unit):=((cond (decide (x.2.2.2.2.2.2<(x.2.2.1.length:Int))) (cond (y4v x.2.2.2.2.2.2 x.2.2.1.length) (cond (y3i (rdL u0f x.2.2.1 x.2.2.2.2.2.2.toNat).1 x.2.2.2.2.1.1) (some true) (cond (y4v x.2.2.2.2.2.2 x.2.2.1.length) (cond (z7q (rdL u0f x.2.2.1 x.2.2.2.2.2.2.toNat).1 x.2.2.2.2.1.1) (cond (y4v x.2.2.2.2.2.2 x.2.2.1.length) (some (decide ((rdL u0f x.2.2.1 x.2.2.2.2.2.2.toNat).2.2.2<=x.2.2.2.2.1.2.2.2))) none) (some false)) none)) none) (some false)):La).bind fun j1=>cond j1 (cond (y4v x.2.2.2.2.2.2 x.2.2.1.length) (cond (Nat.ble (x.2.2.2.2.2.1.length+([(rdL u0f x.2.2.1 x.2.2.2.2.2.2.toNat)]:Lf).length) z7z) (g (x.1,x.2.1,x.2.2.1,x.2.2.2.1,x.2.2.2.2.1,x.2.2.2.2.2.1++([(rdL u0f x.2.2.1 x.2.2.2.2.2.2.toNat)]:Lf),i64.wrap (x.2.2.2.2.2.2+1))) none) none) (some (.inl x))
def u8t:=lpW _ _ t1t
theorem s9b x:u8t x=t1t u8t x:=zW s81 369 f369 8 93 x
def t1s(g:c3z->Ht d4d)(x:c3z):Ht d4d:=cond (decide (x.2.2.2<(x.1.length:Int))) (cond (y4v x.2.2.2 x.1.length) (cond (y4v x.2.2.2 x.1.length) (cond (y4v x.2.2.2 x.1.length) ((u8t (x.1,x.2.1,x.2.2.1,x.2.2.2,((rdL u11 x.1 x.2.2.2.toNat).1,(rdL u11 x.1 x.2.2.2.toNat).2.1,(rdL u11 x.1 x.2.2.2.toNat).2.2,x.2.1),([]:Lf),0)).bind fun|.inl o3=>cond (Nat.ble (o3.2.2.2.2.2.1.length+([o3.2.2.2.2.1]:Lf).length) z7z) (cond (decide (0<=o3.2.2.2.2.2.2)&&decide (o3.2.2.2.2.2.2<=(o3.2.2.1.length:Int))&&decide ((o3.2.2.1.length:Int)<=(o3.2.2.1.length:Int))) (cond (Nat.ble ((o3.2.2.2.2.2.1++([o3.2.2.2.2.1]:Lf)).length+((o3.2.2.1.take (o3.2.2.1.length:Int).toNat).drop o3.2.2.2.2.2.2.toNat).length) z7z) (g (o3.1,o3.2.1,(o3.2.2.2.2.2.1++([o3.2.2.2.2.1]:Lf))++((o3.2.2.1.take (o3.2.2.1.length:Int).toNat).drop o3.2.2.2.2.2.2.toNat),i64.wrap (o3.2.2.2.1+1))) none) none) none|.inr z4=>some (.inr ())) none) none) none) (some (.inl x.2.2.1))
def t1w:=lpW _ _ t1s
theorem s9a x:t1w x=t1s t1w x:=zW s80 369 f369 3 93 x
def r2z (x:d9k):Ht o0j:=cond (Nat.ble (([]:Lf).length+x.1.length) z7z) ((t1w (x.2.1,x.2.2,([]:Lf)++x.1,0)).bind fun|.inl o6=>some o6|.inr z7=>none) none
theorem p33:t67=r2z:=zC 369 func369
def u9h(x:Z66):Ht u9r:=zK 302 x
def t87(g:Z6->Ht (Z24⊕Unit))(x:Z6):Ht (Z24⊕Unit):=cond (decide (x.2.2.2.2.2<(x.1.2.2.1.length:Int))) (cond (y4v x.2.2.2.2.2 x.1.2.2.1.length) ((u05 (rdL u0a x.1.2.2.1 x.2.2.2.2.2.toNat)).bind fun y4=>cond (decide (y4.1=x.2.1.1)) (g (x.1,x.2.1,x.2.2.1,x.2.2.2.1,x.2.2.2.2.1,i64.wrap (x.2.2.2.2.2+1))) ((u31 (y4,x.2.2.2.2.1)).bind fun y5=>cond y5 (cond (Nat.ble (x.2.2.2.1.2.2.1.length+([(y4.1,y4.2.1,y4.2.2.1,y4.2.2.2.1,y4.2.2.2.2.1,y4.2.2.2.2.2.1,true,y4.2.2.2.2.2.2.2)]:Lc).length) z7z) (g (x.1,x.2.1,x.2.2.1,(x.2.2.2.1.1,x.2.2.2.1.2.1,x.2.2.2.1.2.2.1++([(y4.1,y4.2.1,y4.2.2.1,y4.2.2.2.1,y4.2.2.2.2.1,y4.2.2.2.2.2.1,true,y4.2.2.2.2.2.2.2)]:Lc),x.2.2.2.1.2.2.2),x.2.2.2.2.1,i64.wrap (x.2.2.2.2.2+1))) none) (cond (Nat.ble (x.2.2.2.1.2.2.1.length+([y4]:Lc).length) z7z) (g (x.1,x.2.1,x.2.2.1,(x.2.2.2.1.1,x.2.2.2.1.2.1,x.2.2.2.1.2.2.1++([y4]:Lc),x.2.2.2.1.2.2.2),x.2.2.2.2.1,i64.wrap (x.2.2.2.2.2+1))) none))) none) (some (.inl (x.2.1,x.2.2.1,x.2.2.2.1)))
def u9m:=lpW _ _ t87
theorem r8q x:u9m x=t87 u9m x:=zW r7m 302 f302 12 85 x
def q9i (x:Z66):Ht u9r:=(u4b x.1).bind fun y1=>(u05 x.2).bind fun y2=>cond x.2.2.2.2.2.2.2.1 ((t67 (x.1.1,y2.2.2.2.2.2.1,i64.wrap (x.1.2.2.2.1+1))).bind fun y3=>cond (Nat.ble (y1.2.1.length+([(y2.1,3,y2.2.2.1,i64.wrap (x.1.2.2.2.1+1),y2.2.2.2.2.1,y2.2.2.2.2.2.1,true,(⟨#[]⟩:Hs))]:Lc).length) z7z) ((u9m (x.1,x.2,(([]:Lf),([]:Lc),([]:Lc),0,0),(y3,y1.2.1++([(y2.1,3,y2.2.2.1,i64.wrap (x.1.2.2.2.1+1),y2.2.2.2.2.1,y2.2.2.2.2.2.1,true,(⟨#[]⟩:Hs))]:Lc),([]:Lc),i64.wrap (x.1.2.2.2.1+1),y1.2.2.2.2),(y2.1,3,y2.2.2.1,i64.wrap (x.1.2.2.2.1+1),y2.2.2.2.2.1,y2.2.2.2.2.2.1,true,(⟨#[]⟩:Hs)),0)).bind fun|.inl o7=>cond (decide (o7.1.1>=o7.2.2.2.2.2.2)) (some (o7.2.2.1,o7.2.2.2.1,o7.2.2.2.2.1,o7.2.2.2.2.2.1,i64.wrap (o7.1.1+1))) (some o7.2.2)|.inr z8=>none) none) ((s7q (x.2,x.1.2.1)).bind fun y9=>(t67 (x.1.1,y2.2.2.2.2.2.1,i64.wrap (x.1.2.2.2.1+1))).bind fun y10=>cond (Nat.ble (y1.2.1.length+([(y2.1,3,y2.2.2.1,i64.wrap (x.1.2.2.2.1+1),y2.2.2.2.2.1,y2.2.2.2.2.2.1,y9,(⟨#[]⟩:Hs))]:Lc).length) z7z) ((u9m (x.1,x.2,(([]:Lf),([]:Lc),([]:Lc),0,0),(y10,y1.2.1++([(y2.1,3,y2.2.2.1,i64.wrap (x.1.2.2.2.1+1),y2.2.2.2.2.1,y2.2.2.2.2.2.1,y9,(⟨#[]⟩:Hs))]:Lc),([]:Lc),i64.wrap (x.1.2.2.2.1+1),y1.2.2.2.2),(y2.1,3,y2.2.2.1,i64.wrap (x.1.2.2.2.1+1),y2.2.2.2.2.1,y2.2.2.2.2.2.1,y9,(⟨#[]⟩:Hs)),0)).bind fun|.inl o14=>cond (decide (o14.1.1>=o14.2.2.2.2.2.2)) (some (o14.2.2.1,o14.2.2.2.1,o14.2.2.2.2.1,o14.2.2.2.2.2.1,i64.wrap (o14.1.1+1))) (some o14.2.2)|.inr z15=>none) none)
theorem o6c:u9h=q9i:=zC 302 func302
def u8p(x:Z62):Ht u9r:=zK 305 x
def t6l(g:Z4->Ht (Z5⊕Unit))(x:Z4):Ht (Z5⊕Unit):=cond (decide (x.2.2.2.2.2.2<(x.2.1.2.2.1.length:Int))) (cond (y4v x.2.2.2.2.2.2 x.2.1.2.2.1.length) (cond (y3i (rdL u0a x.2.1.2.2.1 x.2.2.2.2.2.2.toNat).2.2.2.2.2.2.2 x.1) (cond (y4v x.2.2.2.2.2.2 x.2.1.2.2.1.length) ((u05 (rdL u0a x.2.1.2.2.1 x.2.2.2.2.2.2.toNat)).bind fun y3=>cond (Nat.ble (x.2.2.2.2.1.2.2.1.length+([y3]:Lc).length) z7z) (g (x.1,x.2.1,x.2.2.1,x.2.2.2.1,(x.2.2.2.2.1.1,x.2.2.2.2.1.2.1,x.2.2.2.2.1.2.2.1++([y3]:Lc),x.2.2.2.2.1.2.2.2),x.2.2.2.2.2.1,i64.wrap (x.2.2.2.2.2.2+1))) none) none) (g (x.1,x.2.1,x.2.2.1,x.2.2.2.1,x.2.2.2.2.1,x.2.2.2.2.2.1,i64.wrap (x.2.2.2.2.2.2+1)))) none) (some (.inl (x.1,x.2.1,x.2.2.1,x.2.2.2.1,x.2.2.2.2.1,x.2.2.2.2.2.1)))
def u78:=lpW _ _ t6l
theorem r4l x:u78 x=t6l u78 x:=zW r3p 305 f305 8 97 x
def t3p(g:Z11->Ht (Z24⊕Unit))(x:Z11):Ht (Z24⊕Unit):=cond (decide (x.2.2.2.2.2<(x.2.1.2.2.1.length:Int))) (cond (y4v x.2.2.2.2.2 x.2.1.2.2.1.length) (cond (!y3i (rdL u0a x.2.1.2.2.1 x.2.2.2.2.2.toNat).2.2.2.2.2.2.2 x.1) (cond (y4v x.2.2.2.2.2 x.2.1.2.2.1.length) ((u05 (rdL u0a x.2.1.2.2.1 x.2.2.2.2.2.toNat)).bind fun y6=>cond (Nat.ble (x.2.2.2.2.1.2.2.1.length+([y6]:Lc).length) z7z) (g (x.1,x.2.1,x.2.2.1,x.2.2.2.1,(x.2.2.2.2.1.1,x.2.2.2.2.1.2.1,x.2.2.2.2.1.2.2.1++([y6]:Lc),x.2.2.2.2.1.2.2.2),i64.wrap (x.2.2.2.2.2+1))) none) none) (g (x.1,x.2.1,x.2.2.1,x.2.2.2.1,x.2.2.2.2.1,i64.wrap (x.2.2.2.2.2+1)))) none) (some (.inl (x.2.2.1,x.2.2.2.1,x.2.2.2.2.1)))
def u7d:=lpW _ _ t3p
theorem r2a x:u7d x=t3p u7d x:=zW r0w 305 f305 14 97 x
def q05 (x:Z62):Ht u9r:=(u4b x.1).bind fun y1=>(u05 x.2.1).bind fun y2=>cond x.2.1.2.2.2.2.2.2.1 ((u78 (x.2.2,x.1,x.2.1,(([]:Lf),([]:Lc),([]:Lc),0,0),(y1.1,y1.2.1,([]:Lc),y1.2.2.2),(y2.1,2,y2.2.2.1,y2.2.2.2.1,y2.2.2.2.2.1,y2.2.2.2.2.2.1,true,x.2.2),0)).bind fun|.inl o5=>cond (Nat.ble (o5.2.2.2.2.1.2.2.1.length+([o5.2.2.2.2.2]:Lc).length) z7z) ((u7d (o5.1,o5.2.1,o5.2.2.1,o5.2.2.2.1,(o5.2.2.2.2.1.1,o5.2.2.2.2.1.2.1,o5.2.2.2.2.1.2.2.1++([o5.2.2.2.2.2]:Lc),o5.2.2.2.2.1.2.2.2),0)).bind fun|.inl o8=>cond (decide (o8.1.1>=o8.2.2.2.2.2.2)) (some (o8.2.2.1,o8.2.2.2.1,o8.2.2.2.2.1,o8.2.2.2.2.2.1,i64.wrap (o8.1.1+1))) (some o8.2.2)|.inr z9=>none) none|.inr z10=>none) ((s7q (x.2.1,x.1.2.1)).bind fun y11=>(u78 (x.2.2,x.1,x.2.1,(([]:Lf),([]:Lc),([]:Lc),0,0),(y1.1,y1.2.1,([]:Lc),y1.2.2.2),(y2.1,2,y2.2.2.1,y2.2.2.2.1,y2.2.2.2.2.1,y2.2.2.2.2.2.1,y11,x.2.2),0)).bind fun|.inl o14=>cond (Nat.ble (o14.2.2.2.2.1.2.2.1.length+([o14.2.2.2.2.2]:Lc).length) z7z) ((u7d (o14.1,o14.2.1,o14.2.2.1,o14.2.2.2.1,(o14.2.2.2.2.1.1,o14.2.2.2.2.1.2.1,o14.2.2.2.2.1.2.2.1++([o14.2.2.2.2.2]:Lc),o14.2.2.2.2.1.2.2.2),0)).bind fun|.inl o17=>cond (decide (o17.1.1>=o17.2.2.2.2.2.2)) (some (o17.2.2.1,o17.2.2.2.1,o17.2.2.2.2.1,o17.2.2.2.2.2.1,i64.wrap (o17.1.1+1))) (some o17.2.2)|.inr z18=>none) none|.inr z19=>none)
theorem p9o:u8p=q05:=zC 305 func305
def s6y(x:d1j):Ht u9r:=zK 307 x
def s1u(g:Z18->Ht (Z59⊕Unit))(x:Z18):Ht (Z59⊕Unit):=cond (decide (x.2.2.2.2<(x.2.1.2.2.1.length:Int))) (cond (y4v x.2.2.2.2 x.2.1.2.2.1.length) (cond (!z7q (rdL u0a x.2.1.2.2.1 x.2.2.2.2.toNat).2.2.2.2.2.2.2 x.1) (cond (y4v x.2.2.2.2 x.2.1.2.2.1.length) ((u05 (rdL u0a x.2.1.2.2.1 x.2.2.2.2.toNat)).bind fun y2=>cond (Nat.ble (x.2.2.2.1.2.2.1.length+([y2]:Lc).length) z7z) (g (x.1,x.2.1,x.2.2.1,(x.2.2.2.1.1,x.2.2.2.1.2.1,x.2.2.2.1.2.2.1++([y2]:Lc),x.2.2.2.1.2.2.2),i64.wrap (x.2.2.2.2+1))) none) none) (g (x.1,x.2.1,x.2.2.1,x.2.2.2.1,i64.wrap (x.2.2.2.2+1)))) none) (some (.inl (x.2.2.1,x.2.2.2.1)))
def t4x:=lpW _ _ s1u
theorem q3b x:t4x x=s1u t4x x:=zW q16 307 f307 4 38 x
def q88 (x:d1j):Ht u9r:=(u4b x.1).bind fun y1=>(t4x (x.2,x.1,(([]:Lf),([]:Lc),([]:Lc),0,0),(y1.1,y1.2.1,([]:Lc),y1.2.2.2),0)).bind fun|.inl o4=>some o4.2|.inr z5=>none
theorem o52:s6y=q88:=zC 307 func307
def r5x(x:Z22):Ht j6r:=zK 291 x
def q9y (x:Z22):Ht j6r:=cond (decide (x.2.1=1)) (cond (!decide (x.2.2.1.2.2.2.1=(i64.wrap (x.1.2.2.2.1+1)))) (some (x.1,false)) ((u9h (x.1,x.2.2.1)).bind fun y1=>some (y1,true))) (cond (decide (x.2.1=2)) (((cond (decide ((x.1.2.2.1.length:Int)>=(3:Int))) (some true) ((u2d (x.1,x.2.2.1.2.2.2.2.2.2.2)).bind fun y2=>some (decide (y2>=0)))):La).bind fun j3=>cond j3 (some (x.1,false)) ((u8p (x.1,x.2.2.1,x.2.2.1.2.2.2.2.2.2.2)).bind fun y4=>some (y4,true))) (cond (decide (x.2.1=3)) ((u2d (x.1,x.2.2.2.1)).bind fun y5=>cond (decide (y5<0)) (some (x.1,false)) (cond x.2.2.2.2.1 (cond (y4v y5 x.1.2.2.1.length) ((u9h (x.1,rdL u0a x.1.2.2.1 y5.toNat)).bind fun y6=>some (y6,true)) none) ((s6y (x.1,x.2.2.2.1)).bind fun y7=>some (y7,true)))) ((u4b x.2.2.2.2.2).bind fun y8=>some (y8,true))))
theorem o6r:r5x=q9y:=zC 291 func291
def r1j(x:s70):Li:=zK 361 x
def t81(g:d6m->Ht j7r)(x:d6m):Ht j7r:=cond (decide (x.2.2<(x.1.length:Int))) (cond (y4v x.2.2 x.1.length) (cond (decide ((rdL u0a x.1 x.2.2.toNat).2.2.1<x.2.1)) (cond (y4v x.2.2 x.1.length) (g (x.1,(rdL u0a x.1 x.2.2.toNat).2.2.1,i64.wrap (x.2.2+1))) none) (g (x.1,x.2.1,i64.wrap (x.2.2+1)))) none) (some (.inl x.2.1))
def t9p:=lpW _ _ t81
theorem r8k x:t9p x=t81 t9p x:=zW r7g 361 f361 3 28 x
def q5d (x:s70):Li:=(t9p (x.2,x.1.2.2.2.1,0)).bind fun|.inl o2=>some o2|.inr z3=>none
theorem o2u:r1j=q5d:=zC 361 func361
def r5t(x:d6z):Ht o0j:=zK 362 x
def s13(g:c3u->Ht d9z)(x:c3u):Ht d9z:=cond (decide (x.2.2.2<(x.1.length:Int))) (cond (y4v x.2.2.2 x.1.length) ((r33 (x.1,(rdL u0f x.1 x.2.2.2.toNat).1,x.2.1)).bind fun y1=>((cond (y4v x.2.2.2 x.1.length) (cond (decide ((rdL u0f x.1 x.2.2.2.toNat).2.2.2>x.2.1)) (some true) (some (decide (y1=x.2.2.2)))) none):La).bind fun j2=>cond j2 (cond (y4v x.2.2.2 x.1.length) (cond (Nat.ble (x.2.2.1.length+([(rdL u0f x.1 x.2.2.2.toNat)]:Lf).length) z7z) (g (x.1,x.2.1,x.2.2.1++([(rdL u0f x.1 x.2.2.2.toNat)]:Lf),i64.wrap (x.2.2.2+1))) none) none) (g (x.1,x.2.1,x.2.2.1,i64.wrap (x.2.2.2+1)))) none) (some (.inl (x.2.1,x.2.2.1)))
def t42:=lpW _ _ s13
theorem q3l x:t42 x=s13 t42 x:=zW q2h 362 f362 3 99 x
def t89(g:c3p->Ht (c1i⊕Unit))(x:c3p):Ht (c1i⊕Unit):=cond (decide (x.2.2.2.2.2<(x.2.1.length:Int))) (cond (y4v x.2.2.2.2.2 x.2.1.length) (cond (y4v x.2.2.2.1 x.2.1.length) (cond (z7q (rdL u0f x.2.1 x.2.2.2.2.2.toNat).1 (rdL u0f x.2.1 x.2.2.2.1.toNat).1) (g (x.1,x.2.1,x.2.2.1,x.2.2.2.1,i64.wrap (x.2.2.2.2.1+1),i64.wrap (x.2.2.2.2.2+1))) (g (x.1,x.2.1,x.2.2.1,x.2.2.2.1,x.2.2.2.2.1,i64.wrap (x.2.2.2.2.2+1)))) none) none) (some (.inl (x.1,x.2.1,x.2.2.1,x.2.2.2.1,x.2.2.2.2.1)))
def t2d:=lpW _ _ t89
theorem r8s x:t2d x=t89 t2d x:=zW r7o 362 f362 14 99 x
def t88(g:c3v->Ht d4d)(x:c3v):Ht d4d:=cond (decide (x.2.2.2<(x.2.1.length:Int))) ((t2d (x.1,x.2.1,x.2.2.1,x.2.2.2,0,0)).bind fun|.inl o6=>(((cond (y4v o6.2.2.2.1 o6.2.1.length) (cond (!(rdL u0f o6.2.1 o6.2.2.2.1.toNat).2.2.1) (some true) (cond (y4v o6.2.2.2.1 o6.2.1.length) (cond (decide ((rdL u0f o6.2.1 o6.2.2.2.1.toNat).2.2.2>o6.1)) (some true) (some (decide (o6.2.2.2.2>1)))) none)) none):La).bind fun j7=>cond j7 (cond (y4v o6.2.2.2.1 o6.2.1.length) (cond (Nat.ble (o6.2.2.1.length+([(rdL u0f o6.2.1 o6.2.2.2.1.toNat)]:Lf).length) z7z) (g (o6.1,o6.2.1,o6.2.2.1++([(rdL u0f o6.2.1 o6.2.2.2.1.toNat)]:Lf),i64.wrap (o6.2.2.2.1+1))) none) none) (g (o6.1,o6.2.1,o6.2.2.1,i64.wrap (o6.2.2.2.1+1))))|.inr z8=>some (.inr ())) (some (.inl x.2.2.1))
def t9s:=lpW _ _ t88
theorem r8r x:t9s x=t88 t9s x:=zW r7n 362 f362 10 99 x
def q9k (x:d6z):Ht o0j:=(t42 (x.1,x.2,([]:Lf),0)).bind fun|.inl o4=>((t9s (o4.1,o4.2,([]:Lf),0)).bind fun|.inl o10=>some o10|.inr z11=>none)|.inr z12=>none
theorem o6e:r5t=q9k:=zC 362 func362
def t91(x:s70):Ht u9r:=zK 292 x
def s30(g:Z19->Ht (Z21⊕Unit))(x:Z19):Ht (Z21⊕Unit):=cond (decide (x.2.2.2.2<(x.1.2.1.length:Int))) (cond (y4v x.2.2.2.2 x.1.2.1.length) (cond (decide ((rdL u0a x.1.2.1 x.2.2.2.2.toNat).2.2.2.1>x.2.2.2.1)) (cond (y4v x.2.2.2.2 x.1.2.1.length) ((u05 (rdL u0a x.1.2.1 x.2.2.2.2.toNat)).bind fun y3=>cond (Nat.ble (x.2.2.1.2.1.length+([y3]:Lc).length) z7z) (g (x.1,x.2.1,(x.2.2.1.1,x.2.2.1.2.1++([y3]:Lc),x.2.2.1.2.2),x.2.2.2.1,i64.wrap (x.2.2.2.2+1))) none) none) (g (x.1,x.2.1,x.2.2.1,x.2.2.2.1,i64.wrap (x.2.2.2.2+1)))) none) (some (.inl (x.1,x.2.1,x.2.2.1,x.2.2.2.1)))
def s38:=lpW _ _ s30
theorem q7g x:s38 x=s30 s38 x:=zW q6g 292 f292 5 47 x
def p3c (x:s70):Ht u9r:=(u4b x.1).bind fun y1=>(r1j x).bind fun y2=>(s38 (x.1,(([]:Lf),([]:Lc),([]:Lc),0,0),(y1.1,([]:Lc),y1.2.2),y2,0)).bind fun|.inl o5=>((r5t (o5.1.1,o5.2.2.2)).bind fun y6=>some (y6,o5.2.2.1.2))|.inr z7=>none
theorem j0d:t91=p3c:=zC 292 func292
def r9w(x:Z22):Ht j6r:=zK 213 x
def p28 (x:Z22):Ht j6r:=(((t05 x.1).bind fun y1=>cond (!y1) (some true) ((s4y x.2).bind fun y2=>some (!y2))):La).bind fun j3=>cond j3 ((u4b x.1).bind fun y4=>some (y4,false)) ((r5x x).bind fun y5=>cond (!y5.2) ((u4b x.1).bind fun y6=>some (y6,false)) ((t91 (y5.1,([]:Lc))).bind fun y7=>(t05 y7).bind fun y8=>cond (!y8) ((u4b x.1).bind fun y9=>some (y9,false)) (some (y7,true))))
theorem o99:r9w=p28:=zC 213 func213
def s00(x:u71):Ht j6r:=zK 133 x
def s1x(g:Z51->Ht (Z59⊕j6r))(x:Z51):Ht (Z59⊕j6r):=cond (decide (x.2.2.2<(x.2.2.1.length:Int))) (cond (y4v x.2.2.2 x.2.2.1.length) ((s5x (rdL Ty.str x.2.2.1 x.2.2.2.toNat)).bind fun y3=>(r9w (x.2.1,y3.1)).bind fun y4=>((cond (!y3.2) (some true) (some (!y4.2))):La).bind fun j5=>cond j5 (some (.inr ((([]:Lf),([]:Lc),([]:Lc),0,0),false))) (g (x.1,y4.1,x.2.2.1,i64.wrap (x.2.2.2+1)))) none) (some (.inl (x.1,x.2.1)))
def u8i:=lpW _ _ s1x
theorem q3e x:u8i x=s1x u8i x:=zW q19 133 f133 4 43 x
def q9b (x:u71):Ht j6r:=(r5m ()).bind fun y1=>(t8b x).bind fun y2=>(u8i ((([]:Lf),([]:Lc),([]:Lc),0,0),y1,y2,0)).bind fun|.inl o7=>some (o7.2,true)|.inr z8=>some z8
theorem o55:s00=q9b:=zC 133 func133
def t4a(x:u71):La:=zK 214 x
def s3y(g:o4r->Ht d6w)(x:o4r):Ht d6w:=cond (decide (x.2<(x.1.1.length:Int))) (cond (y4v x.2 x.1.1.length) (cond (!decide (((rdL Ty.str x.1.1 x.2.toNat).size:Int)=(64:Int))) (some (.inr false)) (g (x.1,i64.wrap (x.2+1)))) none) (some (.inl x.1))
def s35:=lpW _ _ s3y
theorem q7c x:s35 x=s3y s35 x:=zW q6c 214 f214 4 59 x
def s3z(g:o4r->Ht r2h)(x:o4r):Ht r2h:=cond (decide (x.2<(x.1.2.length:Int))) (((cond (y4v x.2 x.1.2.length) ((u0q ((rdL s5e x.1.2 x.2.toNat).1,0,i64.wrap ((x.1.1.length:Int) - (1:Int)))).bind fun y5=>cond (!y5) (some true) (cond (y4v x.2 x.1.2.length) (some (!decide (((rdL s5e x.1.2 x.2.toNat).2.size:Int)=(64:Int)))) none)) none):La).bind fun j6=>cond j6 (some (.inr false)) (g (x.1,i64.wrap (x.2+1)))) (some (.inl ()))
def s36:=lpW _ _ s3z
theorem q7d x:s36 x=s3z s36 x:=zW q6d 214 f214 9 59 x
def p23 (x:u71):La:=(((u0q ((x.1.length:Int),1,100)).bind fun y1=>cond (!y1) (some true) (some (decide ((x.2.length:Int)>(60:Int))))):La).bind fun j2=>cond j2 (some false) ((s35 (x,0)).bind fun|.inl o4=>((s36 (o4,0)).bind fun|.inl o8=>some true|.inr z9=>some z9)|.inr z10=>some z10)
theorem o94:t4a=p23:=zC 214 func214
def u9p(x:Unit):Li:=zK 215 x
def p5m (x:Unit):Li:=some (97:Int)
theorem s5o:u9p=p5m:=zC 215 func215
def s7p(x:u71):La:=zK 134 x
def p7j (x:u71):La:=(((t4a x).bind fun y1=>cond (!y1) (some true) ((u9p ()).bind fun y2=>cond (!decide ((x.1.length:Int)=y2)) (some true) (some (decide ((x.2.length:Int)>(0:Int)))))):La).bind fun j3=>cond j3 (some false) ((t2v (x,0)).bind fun y4=>(t2v (x,1)).bind fun y5=>((cond y4.2.2 (some y5.2.2) (some false)):La).bind fun j6=>some j6)
theorem j3b:s7p=p7j:=zC 134 func134
def u8o(x:u71):Ht u71:=zK 222 x
def t6k(g:d81->Ht j84)(x:d81):Ht j84:=cond (decide (x.2.2.2<(x.1.2.length:Int))) (cond (y4v x.2.2.2 x.1.2.length) (cond (y4v x.2.2.2 x.1.2.length) (cond (y4v (rdL s5e x.1.2 x.2.2.2.toNat).1 x.2.2.1.1.length) (g (x.1,x.2.1,(x.2.2.1.1.set ((rdL s5e x.1.2 x.2.2.2.toNat).1).toNat (rdL s5e x.1.2 x.2.2.2.toNat).2,x.2.2.1.2),i64.wrap (x.2.2.2+1))) none) none) none) (some (.inl (x.2.1,x.2.2.1)))
def t6v:=lpW _ _ t6k
theorem r4k x:t6v x=t6k t6v x:=zW r3o 222 f222 5 36 x
def q04 (x:u71):Ht u71:=(u0y x).bind fun y1=>(t4a x).bind fun y2=>cond (!y2) (some y1) ((t6v (x,(([]:Lg),([]:Ll)),y1,0)).bind fun|.inl o4=>some (o4.2.1,([]:Ll))|.inr z5=>none)
theorem p9n:u8o=q04:=zC 222 func222
def t68(x:j6s):Ht r25:=zK 365 x
def r21 (x:j6s):Ht r25:=(u0y x.1).bind fun y1=>(((t4a x.1).bind fun y2=>cond (!y2) (some true) ((u0q (x.2.1,0,i64.wrap ((x.1.1.length:Int) - (1:Int)))).bind fun y3=>cond (!y3) (some true) (cond (!decide ((x.2.2.size:Int)=(64:Int))) (some true) (some (decide ((x.1.2.length:Int)>=(60:Int))))))):La).bind fun j4=>cond j4 (some (y1,false)) (cond (Nat.ble (y1.2.length+([x.2]:Ll).length) z7z) (some ((y1.1,y1.2++([x.2]:Ll)),true)) none)
theorem p35:t68=r21:=zC 365 func365
def t2w(x:d9e):Ht r25:=zK 299 x
def s24(g:c2m->Ht d6x)(x:c2m):Ht d6x:=cond (decide (x.2.2.2.2.2.2<(x.2.2.1.size:Int))) (cond (decide ((i64.wrap ((64:Int) - (Int.tmod (i64.wrap (x.2.1+x.2.2.2.2.2.2)) (64:Int))))>(i64.wrap ((x.2.2.1.size:Int) - x.2.2.2.2.2.2)))) ((u9o (x.2.2.2.2.2.1,i64.wrap (x.1+(i64.wrap (Int.tdiv (i64.wrap (x.2.1+x.2.2.2.2.2.2)) (64:Int)))))).bind fun y6=>((cond (!y6.2) (some true) (some (!decide ((y6.1.size:Int)=(64:Int))))):La).bind fun j7=>cond j7 ((u0y x.2.2.2.1).bind fun y8=>some (.inr (y8,false))) (cond (decide (0<=(0:Int))&&decide ((0:Int)<=(Int.tmod (i64.wrap (x.2.1+x.2.2.2.2.2.2)) (64:Int)))&&decide ((Int.tmod (i64.wrap (x.2.1+x.2.2.2.2.2.2)) (64:Int))<=(y6.1.size:Int))) (cond (decide (0<=x.2.2.2.2.2.2)&&decide (x.2.2.2.2.2.2<=(i64.wrap (x.2.2.2.2.2.2+(i64.wrap ((x.2.2.1.size:Int) - x.2.2.2.2.2.2)))))&&decide ((i64.wrap (x.2.2.2.2.2.2+(i64.wrap ((x.2.2.1.size:Int) - x.2.2.2.2.2.2))))<=(x.2.2.1.size:Int))) (cond (decide ((y6.1.extract (0:Int).toNat (Int.tmod (i64.wrap (x.2.1+x.2.2.2.2.2.2)) (64:Int)).toNat).size+(x.2.2.1.extract x.2.2.2.2.2.2.toNat (i64.wrap (x.2.2.2.2.2.2+(i64.wrap ((x.2.2.1.size:Int) - x.2.2.2.2.2.2)))).toNat).size<=140737488355328)) (cond (decide (0<=(i64.wrap ((Int.tmod (i64.wrap (x.2.1+x.2.2.2.2.2.2)) (64:Int))+(i64.wrap ((x.2.2.1.size:Int) - x.2.2.2.2.2.2)))))&&decide ((i64.wrap ((Int.tmod (i64.wrap (x.2.1+x.2.2.2.2.2.2)) (64:Int))+(i64.wrap ((x.2.2.1.size:Int) - x.2.2.2.2.2.2))))<=(y6.1.size:Int))&&decide ((y6.1.size:Int)<=(y6.1.size:Int))) (cond (decide (((y6.1.extract (0:Int).toNat (Int.tmod (i64.wrap (x.2.1+x.2.2.2.2.2.2)) (64:Int)).toNat)++(x.2.2.1.extract x.2.2.2.2.2.2.toNat (i64.wrap (x.2.2.2.2.2.2+(i64.wrap ((x.2.2.1.size:Int) - x.2.2.2.2.2.2)))).toNat)).size+(y6.1.extract (i64.wrap ((Int.tmod (i64.wrap (x.2.1+x.2.2.2.2.2.2)) (64:Int))+(i64.wrap ((x.2.2.1.size:Int) - x.2.2.2.2.2.2)))).toNat (y6.1.size:Int).toNat).size<=140737488355328)) ((t68 (x.2.2.2.2.2.1,i64.wrap (x.1+(i64.wrap (Int.tdiv (i64.wrap (x.2.1+x.2.2.2.2.2.2)) (64:Int)))),((y6.1.extract (0:Int).toNat (Int.tmod (i64.wrap (x.2.1+x.2.2.2.2.2.2)) (64:Int)).toNat)++(x.2.2.1.extract x.2.2.2.2.2.2.toNat (i64.wrap (x.2.2.2.2.2.2+(i64.wrap ((x.2.2.1.size:Int) - x.2.2.2.2.2.2)))).toNat))++(y6.1.extract (i64.wrap ((Int.tmod (i64.wrap (x.2.1+x.2.2.2.2.2.2)) (64:Int))+(i64.wrap ((x.2.2.1.size:Int) - x.2.2.2.2.2.2)))).toNat (y6.1.size:Int).toNat))).bind fun y9=>cond (!y9.2) ((u0y x.2.2.2.1).bind fun y10=>some (.inr (y10,false))) (g (x.1,x.2.1,x.2.2.1,x.2.2.2.1,x.2.2.2.2.1,y9.1,i64.wrap (x.2.2.2.2.2.2+(i64.wrap ((x.2.2.1.size:Int) - x.2.2.2.2.2.2)))))) none) none) none) none) none)) ((u9o (x.2.2.2.2.2.1,i64.wrap (x.1+(i64.wrap (Int.tdiv (i64.wrap (x.2.1+x.2.2.2.2.2.2)) (64:Int)))))).bind fun y11=>((cond (!y11.2) (some true) (some (!decide ((y11.1.size:Int)=(64:Int))))):La).bind fun j12=>cond j12 ((u0y x.2.2.2.1).bind fun y13=>some (.inr (y13,false))) (cond (decide (0<=(0:Int))&&decide ((0:Int)<=(Int.tmod (i64.wrap (x.2.1+x.2.2.2.2.2.2)) (64:Int)))&&decide ((Int.tmod (i64.wrap (x.2.1+x.2.2.2.2.2.2)) (64:Int))<=(y11.1.size:Int))) (cond (decide (0<=x.2.2.2.2.2.2)&&decide (x.2.2.2.2.2.2<=(i64.wrap (x.2.2.2.2.2.2+(i64.wrap ((64:Int) - (Int.tmod (i64.wrap (x.2.1+x.2.2.2.2.2.2)) (64:Int)))))))&&decide ((i64.wrap (x.2.2.2.2.2.2+(i64.wrap ((64:Int) - (Int.tmod (i64.wrap (x.2.1+x.2.2.2.2.2.2)) (64:Int))))))<=(x.2.2.1.size:Int))) (cond (decide ((y11.1.extract (0:Int).toNat (Int.tmod (i64.wrap (x.2.1+x.2.2.2.2.2.2)) (64:Int)).toNat).size+(x.2.2.1.extract x.2.2.2.2.2.2.toNat (i64.wrap (x.2.2.2.2.2.2+(i64.wrap ((64:Int) - (Int.tmod (i64.wrap (x.2.1+x.2.2.2.2.2.2)) (64:Int)))))).toNat).size<=140737488355328)) (cond (decide (0<=(i64.wrap ((Int.tmod (i64.wrap (x.2.1+x.2.2.2.2.2.2)) (64:Int))+(i64.wrap ((64:Int) - (Int.tmod (i64.wrap (x.2.1+x.2.2.2.2.2.2)) (64:Int)))))))&&decide ((i64.wrap ((Int.tmod (i64.wrap (x.2.1+x.2.2.2.2.2.2)) (64:Int))+(i64.wrap ((64:Int) - (Int.tmod (i64.wrap (x.2.1+x.2.2.2.2.2.2)) (64:Int))))))<=(y11.1.size:Int))&&decide ((y11.1.size:Int)<=(y11.1.size:Int))) (cond (decide (((y11.1.extract (0:Int).toNat (Int.tmod (i64.wrap (x.2.1+x.2.2.2.2.2.2)) (64:Int)).toNat)++(x.2.2.1.extract x.2.2.2.2.2.2.toNat (i64.wrap (x.2.2.2.2.2.2+(i64.wrap ((64:Int) - (Int.tmod (i64.wrap (x.2.1+x.2.2.2.2.2.2)) (64:Int)))))).toNat)).size+(y11.1.extract (i64.wrap ((Int.tmod (i64.wrap (x.2.1+x.2.2.2.2.2.2)) (64:Int))+(i64.wrap ((64:Int) - (Int.tmod (i64.wrap (x.2.1+x.2.2.2.2.2.2)) (64:Int)))))).toNat (y11.1.size:Int).toNat).size<=140737488355328)) ((t68 (x.2.2.2.2.2.1,i64.wrap (x.1+(i64.wrap (Int.tdiv (i64.wrap (x.2.1+x.2.2.2.2.2.2)) (64:Int)))),((y11.1.extract (0:Int).toNat (Int.tmod (i64.wrap (x.2.1+x.2.2.2.2.2.2)) (64:Int)).toNat)++(x.2.2.1.extract x.2.2.2.2.2.2.toNat (i64.wrap (x.2.2.2.2.2.2+(i64.wrap ((64:Int) - (Int.tmod (i64.wrap (x.2.1+x.2.2.2.2.2.2)) (64:Int)))))).toNat))++(y11.1.extract (i64.wrap ((Int.tmod (i64.wrap (x.2.1+x.2.2.2.2.2.2)) (64:Int))+(i64.wrap ((64:Int) - (Int.tmod (i64.wrap (x.2.1+x.2.2.2.2.2.2)) (64:Int)))))).toNat (y11.1.size:Int).toNat))).bind fun y14=>cond (!y14.2) ((u0y x.2.2.2.1).bind fun y15=>some (.inr (y15,false))) (g (x.1,x.2.1,x.2.2.1,x.2.2.2.1,x.2.2.2.2.1,y14.1,i64.wrap (x.2.2.2.2.2.2+(i64.wrap ((64:Int) - (Int.tmod (i64.wrap (x.2.1+x.2.2.2.2.2.2)) (64:Int)))))))) none) none) none) none) none))) (some (.inl (x.2.2.2.2.1,x.2.2.2.2.2.1)))
def u7e:=lpW _ _ s24
theorem p18 x:u7e x=s24 u7e x:=zW r00 299 f299 5 111 x
def r6o (x:d9e):Ht r25:=(u0y x.1).bind fun y1=>(((u0q (x.2.2.1,0,6400)).bind fun y2=>cond (!y2) (some true) ((u0q (x.2.1,0,i64.wrap ((x.1.1.length:Int) - (1:Int)))).bind fun y3=>cond (!y3) (some true) ((t4a x.1).bind fun y4=>some (!y4)))):La).bind fun j5=>cond j5 (some (y1,false)) ((u7e (x.2.1,x.2.2.1,x.2.2.2,x.1,(([]:Lg),([]:Ll)),y1,0)).bind fun|.inl o17=>some (o17.2,true)|.inr z18=>some z18)
theorem p6b:t2w=r6o:=zC 299 func299
def s43(x:Int):Ht Hs:=zK 300 x
def o88 (x:Int):Ht Hs:=some (y7s ([(u8.wrap x)]:Ld))
theorem p36:s43=o88:=zC 300 func300
def t8c(x:d1z):Ht r25:=zK 221 x
def q5s (x:d1z):Ht r25:=(t0k x.2.1).bind fun y1=>(s43 x.2.2).bind fun y2=>(t2w (x.1,y1,0,y2)).bind fun y3=>some y3
theorem o3a:t8c=q5s:=zC 221 func221
def s42(x:j6s):Ht r25:=zK 219 x
def q5r (x:j6s):Ht r25:=(t2v (x.1,x.2.1)).bind fun y1=>((cond (!y1.2.2) (some true) (cond (z7q x.2.2 (⟨#[]⟩:Hs)) (some true) (cond (decide ((x.2.2.size:Int)>(3008:Int))) (some true) ((t5u (x.1,x.2.1)).bind fun y2=>some (decide (y2>=255)))))):La).bind fun j3=>cond j3 ((u0y x.1).bind fun y4=>some (y4,false)) ((u2a (x.2.2.size:Int)).bind fun y5=>cond (decide (y5.size+x.2.2.size<=140737488355328)) (cond (decide (((y5++x.2.2).size:Int)>(i64.wrap ((3008:Int) - y1.2.1)))) ((u0y x.1).bind fun y6=>some (y6,false)) ((t0k x.2.1).bind fun y7=>(t2w (x.1,i64.wrap (y7+1),y1.2.1,y5++x.2.2)).bind fun y8=>some y8)) none)
theorem o28:s42=q5r:=zC 219 func219
def s9w(x:j6s):Ht r25:=zK 358 x
def p3f (x:j6s):Ht r25:=(s42 x).bind fun y1=>cond (!y1.2) (some (y1.1,false)) ((u8o y1.1).bind fun y2=>(t5u (x.1,x.2.1)).bind fun y3=>(t8c (y2,x.2.1,i64.wrap (y3+1))).bind fun y4=>(u8o y4.1).bind fun y5=>some (y5,y4.2))
theorem j0g:s9w=p3f:=zC 358 func358
def r5u(x:d3t):Ht r25:=zK 284 x
def t4l(g:c23->Ht (c3j⊕Unit))(x:c23):Ht (c3j⊕Unit):=((cond (decide (x.2.2.2.2.2<(x.1.length:Int))) (some x.2.2.2.2.1) (some false)):La).bind fun j4=>cond j4 (cond (y4v x.2.2.2.2.2 x.1.length) ((s9w (x.2.2.2.1,x.2.2.1,rdL Ty.str x.1 x.2.2.2.2.2.toNat)).bind fun y5=>g (x.1,x.2.1,x.2.2.1,y5.1,y5.2,i64.wrap (x.2.2.2.2.2+1))) none) (some (.inl (x.2.1,x.2.2.2.1,x.2.2.2.2.1)))
def t44:=lpW _ _ t4l
theorem s8p x:t44 x=t4l t44 x:=zW q2k 284 f284 5 42 x
def q9t (x:d3t):Ht r25:=(t2u x.1).bind fun y1=>(t8c (x.1,i64.wrap ((1:Int) - y1),0)).bind fun y2=>(u8o y2.1).bind fun y3=>(t44 (x.2,(([]:Lg),([]:Ll)),i64.wrap ((1:Int) - y1),y3,y2.2,0)).bind fun|.inl o7=>some o7.2|.inr z8=>none
theorem o6m:r5u=q9t:=zC 284 func284
def r5v(x:u71):Ht r25:=zK 285 x
def q9u (x:u71):Ht r25:=(s03 (x,0)).bind fun y1=>(s43 (i64.wrap (y1+1))).bind fun y2=>(t2w (x,0,0,y2)).bind fun y3=>some y3
theorem o6n:r5v=q9u:=zC 285 func285
def s8k(x:d3t):Ht r25:=zK 209 x
def q1b (x:d3t):Ht r25:=(s7p x.1).bind fun y1=>cond (!y1) ((u0y x.1).bind fun y2=>some (y2,false)) ((r5u x).bind fun y3=>cond (!y3.2) ((u0y x.1).bind fun y4=>some (y4,false)) ((r5v y3.1).bind fun y5=>cond (!y5.2) ((u0y x.1).bind fun y6=>some (y6,false)) ((u8o y5.1).bind fun y7=>some (y7,true))))
theorem p9u:s8k=q1b:=zC 209 func209
def s45(x:u71):Ht r25:=zK 132 x
def q5v (x:u71):Ht r25:=(s00 x).bind fun y1=>(u40 (4,(0,0,0,0,([]:Lj),([]:Lh),false,(⟨#[]⟩:Hs)),(⟨#[]⟩:Hs),false,y1.1)).bind fun y2=>((cond (!y1.2) (some true) (some (!y2.2))):La).bind fun j3=>cond j3 ((u0y x).bind fun y4=>some (y4,false)) ((s8k (x,([y2.1]:Lg))).bind fun y5=>some y5)
theorem o3d:s45=q5v:=zC 132 func132
def u9y(x:Z76):Ht Z69:=zK 72 x
def q5b (x:Z76):Ht Z69:=(r5y x).bind fun y1=>(s45 x.2).bind fun y2=>cond y2.2 (some ((y1.1,y2.1),y2.2)) (some (y1,y2.2))
theorem o2s:u9y=q5b:=zC 72 func72
def u8q(x:u71):Ht Z69:=zK 73 x
def q09 (x:u71):Ht Z69:=(s00 x).bind fun y1=>(((s7p x).bind fun y2=>cond (!y2) (some true) (some (!y1.2))):La).bind fun j3=>cond j3 (some ((((([]:Lf),([]:Lc),([]:Lc),0,0),([]:Lc)),([]:Lg),([]:Ll)),false)) ((u0y x).bind fun y4=>some (((y1.1,([]:Lc)),y4),true))
theorem p9s:u8q=q09:=zC 73 func73
def s8i(x:j6s):Ht r25:=zK 296 x
def q06 (x:j6s):Ht r25:=(((s7p x.1).bind fun y1=>cond (!y1) (some true) ((u0q (x.2.1,0,1)).bind fun y2=>some (!y2))):La).bind fun j3=>cond j3 ((u0y x.1).bind fun y4=>some (y4,false)) ((s9w x).bind fun y5=>cond (!y5.2) ((u0y x.1).bind fun y6=>some (y6,false)) (some (y5.1,true)))
theorem p9p:s8i=q06:=zC 296 func296
def t5o(x:d9j):Ht r25:=zK 217 x
def q0z (x:d9j):Ht r25:=(t2u x.1).bind fun y1=>(s8i (x.1,y1,x.2)).bind fun y2=>some y2
theorem p9i:t5o=q0z:=zC 217 func217
def s2u(x:d7o):Ht u71:=zK 220 x
def t6h(g:Z99->Ht (d8v⊕Unit))(x:Z99):Ht (d8v⊕Unit):=((cond (decide (x.2.2.2.2.2.2<(x.2.2.1.2.length:Int))) (some (decide (x.2.2.2.2.2.2<(x.1.length:Int)))) (some false)):La).bind fun j3=>cond j3 (cond (y4v x.2.2.2.2.2.2 x.1.length) (cond (!decide ((Int.tmod (rdL (Ty.int .i64) x.1 x.2.2.2.2.2.2.toNat) (2:Int))=0)) (g (x.1,x.2.1,x.2.2.1,x.2.2.2.1,x.2.2.2.2.1,x.2.2.2.2.2.2,i64.wrap (x.2.2.2.2.2.2+1))) (g (x.1,x.2.1,x.2.2.1,x.2.2.2.1,x.2.2.2.2.1,x.2.2.2.2.2.1,i64.wrap (x.2.2.2.2.2.2+1)))) none) (some (.inl (x.1,x.2.1,x.2.2.1,x.2.2.2.1,x.2.2.2.2.1,x.2.2.2.2.2.1)))
def u76:=lpW _ _ t6h
theorem r4h x:u76 x=t6h u76 x:=zW r3l 220 f220 6 93 x
def t3o(g:c2l->Ht j84)(x:c2l):Ht j84:=cond (decide (x.2.2.2.2.2.2<=x.2.2.2.2.1)) (cond (y4v x.2.2.2.2.2.2 x.1.length) (cond (decide ((Int.tmod (rdL (Ty.int .i64) x.1 x.2.2.2.2.2.2.toNat) (2:Int))=0)) (g (x.1,x.2.1,x.2.2.1,x.2.2.2.1,x.2.2.2.2.1,x.2.2.2.2.2.1,i64.wrap (x.2.2.2.2.2.2+1))) (cond (y4v x.2.2.2.2.2.2 x.2.1.2.length) (cond (decide (x.2.2.2.2.2.2=x.2.2.2.2.1)) (cond (decide (0<=(0:Int))&&decide ((0:Int)<=x.2.2.2.2.2.1)&&decide (x.2.2.2.2.2.1<=((rdL s5e x.2.1.2 x.2.2.2.2.2.2.toNat).2.size:Int))) (cond (y4v (rdL s5e x.2.1.2 x.2.2.2.2.2.2.toNat).1 x.2.2.2.1.1.length) (cond (decide (0<=x.2.2.2.2.2.1)&&decide (x.2.2.2.2.2.1<=((rdL Ty.str x.2.2.2.1.1 ((rdL s5e x.2.1.2 x.2.2.2.2.2.2.toNat).1).toNat).size:Int))&&decide (((rdL Ty.str x.2.2.2.1.1 ((rdL s5e x.2.1.2 x.2.2.2.2.2.2.toNat).1).toNat).size:Int)<=((rdL Ty.str x.2.2.2.1.1 ((rdL s5e x.2.1.2 x.2.2.2.2.2.2.toNat).1).toNat).size:Int))) (cond (decide (((rdL s5e x.2.1.2 x.2.2.2.2.2.2.toNat).2.extract (0:Int).toNat x.2.2.2.2.2.1.toNat).size+((rdL Ty.str x.2.2.2.1.1 ((rdL s5e x.2.1.2 x.2.2.2.2.2.2.toNat).1).toNat).extract x.2.2.2.2.2.1.toNat ((rdL Ty.str x.2.2.2.1.1 ((rdL s5e x.2.1.2 x.2.2.2.2.2.2.toNat).1).toNat).size:Int).toNat).size<=140737488355328)) (cond (y4v (rdL s5e x.2.1.2 x.2.2.2.2.2.2.toNat).1 x.2.2.2.1.1.length) (g (x.1,x.2.1,x.2.2.1,(x.2.2.2.1.1.set ((rdL s5e x.2.1.2 x.2.2.2.2.2.2.toNat).1).toNat (((rdL s5e x.2.1.2 x.2.2.2.2.2.2.toNat).2.extract (0:Int).toNat x.2.2.2.2.2.1.toNat)++((rdL Ty.str x.2.2.2.1.1 ((rdL s5e x.2.1.2 x.2.2.2.2.2.2.toNat).1).toNat).extract x.2.2.2.2.2.1.toNat ((rdL Ty.str x.2.2.2.1.1 ((rdL s5e x.2.1.2 x.2.2.2.2.2.2.toNat).1).toNat).size:Int).toNat)),x.2.2.2.1.2),x.2.2.2.2.1,x.2.2.2.2.2.1,i64.wrap (x.2.2.2.2.2.2+1))) none) none) none) none) none) (cond (y4v (rdL s5e x.2.1.2 x.2.2.2.2.2.2.toNat).1 x.2.2.2.1.1.length) (g (x.1,x.2.1,x.2.2.1,(x.2.2.2.1.1.set ((rdL s5e x.2.1.2 x.2.2.2.2.2.2.toNat).1).toNat (rdL s5e x.2.1.2 x.2.2.2.2.2.2.toNat).2,x.2.2.2.1.2),x.2.2.2.2.1,x.2.2.2.2.2.1,i64.wrap (x.2.2.2.2.2.2+1))) none)) none)) none) (some (.inl (x.2.2.1,x.2.2.2.1)))
def u7c:=lpW _ _ t3o
theorem r19 x:u7c x=t3o u7c x:=zW r0v 220 f220 14 93 x
def q01 (x:d7o):Ht u71:=(u0y x.1).bind fun y1=>(t4a x.1).bind fun y2=>cond (!y2) (some y1) ((u76 (x.2.1,x.2.2,x.1,(([]:Lg),([]:Ll)),y1,(- 1:Int),0)).bind fun|.inl o5=>cond (decide ((Int.tmod o5.2.1 (65:Int))<0)) ((u7c (o5.1,o5.2.2.1,o5.2.2.2.1,o5.2.2.2.2.1,o5.2.2.2.2.2,i64.wrap ((i64.wrap ((Int.tmod o5.2.1 (65:Int))+64))+1),0)).bind fun|.inl o7=>some (o7.2.1,([]:Ll))|.inr z8=>none) ((u7c (o5.1,o5.2.2.1,o5.2.2.2.1,o5.2.2.2.2.1,o5.2.2.2.2.2,Int.tmod o5.2.1 (65:Int),0)).bind fun|.inl o10=>some (o10.2.1,([]:Ll))|.inr z11=>none)|.inr z12=>none)
theorem p9k:s2u=q01:=zC 220 func220
def s8h(x:d9c):Ht u71:=zK 135 x
def q02 (x:d9c):Ht u71:=(t5o (x.1,x.2.1)).bind fun y1=>cond (!y1.2) ((u0y x.1).bind fun y2=>some y2) ((t2u x.1).bind fun y3=>(s42 (x.1,y3,x.2.1)).bind fun y4=>cond (decide (x.2.2.1=0)) ((s2u (y4.1,x.2.2.2)).bind fun y5=>some y5) (cond (decide (x.2.2.1=1)) ((u8o y4.1).bind fun y6=>(t5u (x.1,y3)).bind fun y7=>(t8c (y6,y3,i64.wrap (y7+1))).bind fun y8=>(s2u (y8.1,x.2.2.2)).bind fun y9=>some y9) (some y1.1)))
theorem p9l:s8h=q02:=zC 135 func135
def s8j(x:d1y):La:=zK 136 x
def t6p(g:d9m->Ht r2h)(x:d9m):Ht r2h:=cond (decide (x.2.2<(x.1.length:Int))) (cond (y4v x.2.2 x.1.length) (cond (y4v x.2.2 x.2.1.length) (cond (!z7q (rdL Ty.str x.1 x.2.2.toNat) (rdL Ty.str x.2.1 x.2.2.toNat)) (some (.inr false)) (g (x.1,x.2.1,i64.wrap (x.2.2+1)))) none) none) (some (.inl ()))
def t6x:=lpW _ _ t6p
theorem r4p x:t6x x=t6p t6x x:=zW r3t 136 f136 6 32 x
def q1a (x:d1y):La:=(t8b x.1).bind fun y1=>(t8b x.2).bind fun y2=>cond (!decide ((y1.length:Int)=(y2.length:Int))) (some false) ((t6x (y1,y2,0)).bind fun|.inl o4=>some true|.inr z5=>some z5)
theorem p9t:s8j=q1a:=zC 136 func136
def t1f(x:c3d):Ht u71:=zK 74 x
def q94 (x:c3d):Ht u71:=(s8h (x.1,(⟨#[120]⟩:Hs),0,x.2.2.2.2.2,x.2.2.1)).bind fun y1=>(s8j (y1,x.1)).bind fun y2=>cond (!y2) ((u0y x.1).bind fun y3=>some y3) (some y1)
theorem o6x:t1f=q94:=zC 74 func74
def u1m(x:Z97):Ht s70:=zK 226 x
def s31(g:Z68->Ht (Z77⊕Unit))(x:Z68):Ht (Z77⊕Unit):=cond (decide (x.2.2.2<(x.1.2.length:Int))) (cond (y4v x.2.2.2 x.1.2.length) (cond (!decide ((rdL u0a x.1.2 x.2.2.2.toNat).1=x.2.1)) (cond (y4v x.2.2.2 x.1.2.length) (cond (Nat.ble (x.2.2.1.length+([(rdL u0a x.1.2 x.2.2.2.toNat)]:Lc).length) z7z) (g (x.1,x.2.1,x.2.2.1++([(rdL u0a x.1.2 x.2.2.2.toNat)]:Lc),i64.wrap (x.2.2.2+1))) none) none) (g (x.1,x.2.1,x.2.2.1,i64.wrap (x.2.2.2+1)))) none) (some (.inl (x.1,x.2.2.1)))
def t7r:=lpW _ _ s31
theorem q7h x:t7r x=s31 t7r x:=zW q6j 226 f226 2 49 x
def p3j (x:Z97):Ht s70:=(t7r (x.1,x.2,([]:Lc),0)).bind fun|.inl o2=>((t91 (o2.1.1,o2.2)).bind fun y3=>some (y3,o2.2))|.inr z4=>none
theorem j0k:u1m=p3j:=zC 226 func226
def t94(x:u9r):Ht p1a:=zK 304 x
def p3i (x:u9r):Ht p1a:=cond (Nat.ble (([]:Lc).length+x.2.1.length) z7z) (cond (Nat.ble ((([]:Lc)++x.2.1).length+x.2.2.1.length) z7z) (some ((([]:Lc)++x.2.1)++x.2.2.1)) none) none
theorem j0j:t94=p3i:=zC 304 func304
def s67(x:u9r):La:=zK 306 x
def q91 (x:u9r):La:=((cond (decide ((x.2.1.length:Int)>=(12:Int))) (some true) (cond (decide ((x.1.length:Int)>(100:Int))) (some true) (some (decide (x.2.2.2.1>=9999))))):La).bind fun j1=>some j1
theorem o6u:s67=q91:=zC 306 func306
def r31(x:d6p):La:=zK 389 x
def s6c(g:d3u->Ht (d6o⊕Bool))(x:d3u):Ht (d6o⊕Bool):=cond (decide (x.2.2.2<(x.2.1.length:Int))) (cond (y4v x.2.2.1 x.1.length) (cond (y4v x.2.2.2 x.2.1.length) (cond (z7q (rdL u11 x.1 x.2.2.1.toNat).1 (rdL u11 x.2.1 x.2.2.2.toNat).1) (some (.inr true)) (g (x.1,x.2.1,x.2.2.1,i64.wrap (x.2.2.2+1)))) none) none) (some (.inl (x.1,x.2.1,x.2.2.1)))
def s0n:=lpW _ _ s6c
theorem p05 x:s0n x=s6c s0n x:=zW p0m 389 f389 5 30 x
def s6b(g:d6o->Ht r2h)(x:d6o):Ht r2h:=cond (decide (x.2.2<(x.1.length:Int))) ((s0n (x.1,x.2.1,x.2.2,0)).bind fun|.inl o2=>g (o2.1,o2.2.1,i64.wrap (o2.2.2+1))|.inr z3=>some (.inr z3)) (some (.inl ()))
def s6k:=lpW _ _ s6b
theorem p04 x:s6k x=s6b s6k x:=zW p0l 389 f389 2 30 x
def p7k (x:d6p):La:=(s6k (x.1,x.2,0)).bind fun|.inl o5=>some false|.inr z6=>some z6
theorem j3c:r31=p7k:=zC 389 func389
def r5n(x:o07):La:=zK 366 x
def s1r(g:d1i->Ht r2h)(x:d1i):Ht r2h:=cond (decide (x.2.2<(x.1.length:Int))) (cond (y4v x.2.2 x.1.length) (((cond (!decide ((rdL u0a x.1 x.2.2.toNat).1=x.2.1.1)) (cond (decide ((rdL u0a x.1 x.2.2.toNat).2.1=2)) ((r31 ((rdL u0a x.1 x.2.2.toNat).2.2.2.2.2.1,x.2.1.2.2.2.2.2.1)).bind fun y1=>some y1) (cond (decide ((rdL u0a x.1 x.2.2.toNat).2.1=3)) (cond (decide ((rdL u0a x.1 x.2.2.toNat).2.2.2.1>x.2.1.2.2.1)) ((r31 ((rdL u0a x.1 x.2.2.toNat).2.2.2.2.2.1,x.2.1.2.2.2.2.2.1)).bind fun y2=>some y2) (some false)) (some false))) (some false)):La).bind fun j3=>cond j3 (some (.inr true)) (g (x.1,x.2.1,i64.wrap (x.2.2+1)))) none) (some (.inl ()))
def t4w:=lpW _ _ s1r
theorem q29 x:t4w x=s1r t4w x:=zW q12 366 f366 2 46 x
def q85 (x:o07):La:=(t4w (x.2,x.1,0)).bind fun|.inl o5=>some false|.inr z6=>some z6
theorem o5z:r5n=q85:=zC 366 func366
def r9v(x:o07):La:=zK 371 x
def s9g(g:d1i->Ht r2h)(x:d1i):Ht r2h:=cond (decide (x.2.2<(x.1.length:Int))) (((cond (y4v x.2.2 x.1.length) (cond (decide ((rdL u0a x.1 x.2.2.toNat).2.1=2)) (cond (y4v x.2.2 x.1.length) ((u31 (rdL u0a x.1 x.2.2.toNat,x.2.1)).bind fun y1=>some y1) none) (cond (y4v x.2.2 x.1.length) (cond (decide ((rdL u0a x.1 x.2.2.toNat).2.1=3)) (cond (y4v x.2.2 x.1.length) ((u31 (rdL u0a x.1 x.2.2.toNat,x.2.1)).bind fun y2=>some y2) none) (some false)) none)) none):La).bind fun j3=>cond j3 (some (.inr true)) (g (x.1,x.2.1,i64.wrap (x.2.2+1)))) (some (.inl ()))
def s37:=lpW _ _ s9g
theorem p40 x:s37 x=s9g s37 x:=zW p4d 371 f371 2 34 x
def o06 (x:o07):La:=(s37 (x.2,x.1,0)).bind fun|.inl o5=>some false|.inr z6=>some z6
theorem j5t:r9v=o06:=zC 371 func371
def s9r(x:o07):La:=zK 367 x
def t4j(g:Z55->Ht (d1i⊕Bool))(x:Z55):Ht (d1i⊕Bool):=((cond (decide (x.2.2.2.2<(x.1.length:Int))) (cond (decide (x.2.2.2.1.2.1=2)) ((u31 (x.2.2.2.1,x.2.1)).bind fun y10=>some y10) (some false)) (some false)):La).bind fun j11=>cond j11 (cond (y4v x.2.2.2.2 x.1.length) (((cond (decide ((rdL u0a x.1 x.2.2.2.2.toNat).2.1=2)) (cond (!decide ((rdL u0a x.1 x.2.2.2.2.toNat).1=x.2.1.1)) ((u31 (rdL u0a x.1 x.2.2.2.2.toNat,x.2.2.2.1)).bind fun y12=>some y12) (some false)) (some false)):La).bind fun j13=>cond j13 (some (.inr true)) (g (x.1,x.2.1,x.2.2.1,x.2.2.2.1,i64.wrap (x.2.2.2.2+1)))) none) (some (.inl (x.1,x.2.1,x.2.2.1)))
def t0d:=lpW _ _ t4j
theorem s8o x:t0d x=t4j t0d x:=zW q13 367 f367 12 92 x
def s3x(g:d1i->Ht r2h)(x:d1i):Ht r2h:=cond (decide (x.2.2<(x.1.length:Int))) (cond (y4v x.2.2 x.1.length) (((cond (decide ((rdL u0a x.1 x.2.2.toNat).2.1=2)) (cond (rdL u0a x.1 x.2.2.toNat).2.2.2.2.2.2.1 ((u31 (x.2.1,rdL u0a x.1 x.2.2.toNat)).bind fun y4=>some y4) (some false)) (cond (decide ((rdL u0a x.1 x.2.2.toNat).2.1=3)) (cond (rdL u0a x.1 x.2.2.toNat).2.2.2.2.2.2.1 ((u31 (x.2.1,rdL u0a x.1 x.2.2.toNat)).bind fun y5=>some y5) (some false)) (some false))):La).bind fun j6=>cond j6 (some (.inr true)) (((cond (decide ((rdL u0a x.1 x.2.2.toNat).2.1=2)) ((u31 (rdL u0a x.1 x.2.2.toNat,x.2.1)).bind fun y7=>cond y7 ((u31 (x.2.1,rdL u0a x.1 x.2.2.toNat)).bind fun y8=>some y8) (some false)) (some false)):La).bind fun j9=>cond j9 (some (.inr true)) ((t0d (x.1,x.2.1,x.2.2,rdL u0a x.1 x.2.2.toNat,0)).bind fun|.inl o15=>g (o15.1,o15.2.1,i64.wrap (o15.2.2+1))|.inr z16=>some (.inr z16)))) none) (some (.inl ()))
def t7n:=lpW _ _ s3x
theorem q7b x:t7n x=s3x t7n x:=zW q6b 367 f367 4 92 x
def p22 (x:o07):La:=(((r9v x).bind fun y1=>cond y1 ((s7q x).bind fun y2=>some y2) (some false)):La).bind fun j3=>cond j3 (some true) ((t7n (x.2,x.1,0)).bind fun|.inl o18=>some false|.inr z19=>some z19)
theorem o93:s9r=p22:=zC 367 func367
def r30(x:Z97):Li:=zK 301 x
def p7g (x:Z97):Li:=(u7l x).bind fun y1=>cond (decide (y1<0)) (some (1:Int)) ((t94 x.1.1).bind fun y2=>cond (y4v y1 x.1.2.length) ((r5n (rdL u0a x.1.2 y1.toNat,y2)).bind fun y3=>cond y3 (some (4:Int)) (cond (y4v y1 x.1.2.length) ((s9r (rdL u0a x.1.2 y1.toNat,y2)).bind fun y4=>cond y4 (some (5:Int)) ((s67 x.1.1).bind fun y5=>cond y5 (some (3:Int)) (some (0:Int)))) none)) none)
theorem j27:r30=p7g:=zC 301 func301
def r9s(x:Z97):Ht Z15:=zK 224 x
def p21 (x:Z97):Ht Z15:=(u0s x.1).bind fun y1=>(r30 x).bind fun y2=>cond (decide (y2=1)) (some (y1,(0,(0,0,0,0,([]:Lj),([]:Lh),false,(⟨#[]⟩:Hs)),(⟨#[]⟩:Hs),false,([]:Lf),([]:Lc),([]:Lc),0,0),y2)) (cond (!decide (y2=0)) ((u1m (y1,x.2)).bind fun y3=>some (y3,(0,(0,0,0,0,([]:Lj),([]:Lh),false,(⟨#[]⟩:Hs)),(⟨#[]⟩:Hs),false,([]:Lf),([]:Lc),([]:Lc),0,0),y2)) ((u7l x).bind fun y4=>cond (y4v y4 x.1.2.length) ((u9h (x.1.1,rdL u0a x.1.2 y4.toNat)).bind fun y5=>cond (y4v (i64.wrap ((y5.2.1.length:Int) - (1:Int))) y5.2.1.length) ((u05 (rdL u0a y5.2.1 (i64.wrap ((y5.2.1.length:Int) - (1:Int))).toNat)).bind fun y6=>(u1m ((y5,y1.2),x.2)).bind fun y7=>some (y7,(1,y6,(⟨#[]⟩:Hs),false,([]:Lf),([]:Lc),([]:Lc),0,0),0)) none) none))
theorem o92:r9s=p21:=zC 224 func224
def s05(x:Z9):Ht Z43:=zK 225 x
def q93 (x:Z9):Ht Z43:=(u40 x.2).bind fun y1=>cond (!y1.2) (some (false,x.1)) ((t5o (x.1.1.2,y1.1)).bind fun y2=>cond (!y2.2) ((s45 x.1.1.2).bind fun y3=>cond (!y3.2) (some (false,x.1)) ((t5o (y3.1,y1.1)).bind fun y4=>cond y4.2 (some (y4.2,(x.1.1.1,y4.1),x.1.2)) (some (y4.2,x.1)))) (cond y2.2 (some (y2.2,(x.1.1.1,y2.1),x.1.2)) (some (y2.2,x.1))))
theorem o6w:s05=q93:=zC 225 func225
def s2y(x:Z44):Ht Z45:=zK 138 x
def q1e (x:Z44):Ht Z45:=(r9s (x.1.1.1,x.2)).bind fun y1=>cond (decide (y1.2.2=0)) ((s05 (x.1,y1.2.1)).bind fun y2=>cond (!y2.1) ((u0s y2.2.1.1).bind fun y3=>(u1m (y3,x.2)).bind fun y4=>some (3,(y4,y2.2.1.2),y2.2.2)) (some (y1.2.2,(y1.1,y2.2.1.2),y2.2.2))) (some (y1.2.2,(y1.1,x.1.1.2),x.1.2))
theorem p9x:s2y=q1e:=zC 138 func138
def u41(x:Z17):Ht Z46:=zK 139 x
def r6s (x:Z17):Ht Z46:=cond (!decide (x.1.1.1.1.2.2.2.1=(i64.wrap (x.2.1+1)))) (some x.1) ((u05 x.2.2).bind fun y1=>cond (Nat.ble (([]:Lc).length+x.1.2.1.length) z7z) (cond (Nat.ble ((([]:Lc)++x.1.2.1).length+([(y1.1,3,y1.2.2.1,x.1.1.1.1.2.2.2.1,y1.2.2.2.2.1,y1.2.2.2.2.2.1,y1.2.2.2.2.2.2.1,(⟨#[]⟩:Hs))]:Lc).length) z7z) (some (x.1.1,(([]:Lc)++x.1.2.1)++([(y1.1,3,y1.2.2.1,x.1.1.1.1.2.2.2.1,y1.2.2.2.2.1,y1.2.2.2.2.2.1,y1.2.2.2.2.2.2.1,(⟨#[]⟩:Hs))]:Lc),x.1.2.2)) none) none)
theorem p6f:u41=r6s:=zC 139 func139
def q6q(x:Z97):Ht Z97:=zK 140 x
def p7i (x:Z97):Ht Z97:=(u0s x.1).bind fun y1=>(u7l x).bind fun y2=>cond (decide (y2<0)) (some (y1,1)) ((u1m (y1,x.2)).bind fun y3=>some (y3,0))
theorem j3a:q6q=p7i:=zC 140 func140
def s4x(x:o07):La:=zK 303 x
def t0q(g:Z53->Ht (d8w⊕Bool))(x:Z53):Ht (d8w⊕Bool):=cond (decide (x.2.2.2.2.2<(x.1.length:Int))) (((cond (y4v x.2.2.2.2.2 x.1.length) (cond (decide ((rdL u0a x.1 x.2.2.2.2.2.toNat).2.1=2)) (cond (y4v x.2.2.2.2.2 x.1.length) (cond (!decide ((rdL u0a x.1 x.2.2.2.2.2.toNat).1=x.2.1.1)) (cond (y4v x.2.2.2.2.2 x.1.length) ((u31 (x.2.2.2.2.1,rdL u0a x.1 x.2.2.2.2.2.toNat)).bind fun y5=>some y5) none) (some false)) none) (some false)) none):La).bind fun j6=>cond j6 (some (.inr true)) (g (x.1,x.2.1,x.2.2.1,x.2.2.2.1,x.2.2.2.2.1,i64.wrap (x.2.2.2.2.2+1)))) (some (.inl (x.1,x.2.1,x.2.2.1,x.2.2.2.1)))
def u7n:=lpW _ _ t0q
theorem s7z x:u7n x=t0q u7n x:=zW s7j 303 f303 12 65 x
def t1u(g:d8w->Ht r2h)(x:d8w):Ht r2h:=cond (decide (x.2.2.2<(x.1.length:Int))) (cond (y4v x.2.2.2 x.1.length) (((cond (!decide ((rdL u0a x.1 x.2.2.2.toNat).2.1=2)) (some true) ((u31 (x.2.1,rdL u0a x.1 x.2.2.2.toNat)).bind fun y3=>some (!y3))):La).bind fun j4=>cond j4 (g (x.1,x.2.1,x.2.2.1,i64.wrap (x.2.2.2+1))) (cond x.2.2.1 (some (.inr true)) ((u7n (x.1,x.2.1,x.2.2.1,x.2.2.2,rdL u0a x.1 x.2.2.2.toNat,0)).bind fun|.inl o8=>g (o8.1,o8.2.1,o8.2.2.1,i64.wrap (o8.2.2.2+1))|.inr z9=>some (.inr z9)))) none) (some (.inl ()))
def u8u:=lpW _ _ t1u
theorem s9c x:u8u x=t1u u8u x:=zW s82 303 f303 5 65 x
def r20 (x:o07):La:=(s9r x).bind fun y1=>cond y1 (some true) ((r9v x).bind fun y2=>(u8u (x.2,x.1,y2,0)).bind fun|.inl o11=>some false|.inr z12=>some z12)
theorem p34:s4x=r20:=zC 303 func303
def r5q(x:Z84):Ht Z15:=zK 227 x
def q9c (x:Z84):Ht Z15:=(u0s x.1).bind fun y1=>(u7l (x.1,x.2.1)).bind fun y2=>cond (decide (y2<0)) (some (y1,(0,(0,0,0,0,([]:Lj),([]:Lh),false,(⟨#[]⟩:Hs)),(⟨#[]⟩:Hs),false,([]:Lf),([]:Lc),([]:Lc),0,0),1)) ((u9g x.2.2).bind fun y3=>cond (!y3) (some (y1,(0,(0,0,0,0,([]:Lj),([]:Lh),false,(⟨#[]⟩:Hs)),(⟨#[]⟩:Hs),false,([]:Lf),([]:Lc),([]:Lc),0,0),2)) ((u2d (x.1.1,x.2.2)).bind fun y4=>cond (decide (y4>=0)) (some (y1,(0,(0,0,0,0,([]:Lj),([]:Lh),false,(⟨#[]⟩:Hs)),(⟨#[]⟩:Hs),false,([]:Lf),([]:Lc),([]:Lc),0,0),6)) ((r30 (x.1,x.2.1)).bind fun y5=>((cond (decide (y5=0)) (cond (y4v y2 x.1.2.length) ((t94 x.1.1).bind fun y6=>(s4x (rdL u0a x.1.2 y2.toNat,y6)).bind fun y7=>some y7) none) (some false)):La).bind fun j8=>cond j8 (((cond (decide ((5:Int)=(0:Int))) (some (decide ((x.1.1.2.2.1.length:Int)>=(3:Int)))) (some false)):La).bind fun j9=>cond j9 (cond (!decide ((3:Int)=(0:Int))) ((u1m (y1,x.2.1)).bind fun y10=>some (y10,(0,(0,0,0,0,([]:Lj),([]:Lh),false,(⟨#[]⟩:Hs)),(⟨#[]⟩:Hs),false,([]:Lf),([]:Lc),([]:Lc),0,0),3)) (cond (y4v y2 x.1.2.length) ((u8p (x.1.1,rdL u0a x.1.2 y2.toNat,x.2.2)).bind fun y11=>(u2d (y11,x.2.2)).bind fun y12=>cond (y4v y12 y11.2.2.1.length) ((u05 (rdL u0a y11.2.2.1 y12.toNat)).bind fun y13=>(u1m ((y11,y1.2),x.2.1)).bind fun y14=>some (y14,(2,y13,(⟨#[]⟩:Hs),false,([]:Lf),([]:Lc),([]:Lc),0,0),0)) none) none)) (cond (!decide ((5:Int)=(0:Int))) ((u1m (y1,x.2.1)).bind fun y15=>some (y15,(0,(0,0,0,0,([]:Lj),([]:Lh),false,(⟨#[]⟩:Hs)),(⟨#[]⟩:Hs),false,([]:Lf),([]:Lc),([]:Lc),0,0),5)) (cond (y4v y2 x.1.2.length) ((u8p (x.1.1,rdL u0a x.1.2 y2.toNat,x.2.2)).bind fun y16=>(u2d (y16,x.2.2)).bind fun y17=>cond (y4v y17 y16.2.2.1.length) ((u05 (rdL u0a y16.2.2.1 y17.toNat)).bind fun y18=>(u1m ((y16,y1.2),x.2.1)).bind fun y19=>some (y19,(2,y18,(⟨#[]⟩:Hs),false,([]:Lf),([]:Lc),([]:Lc),0,0),0)) none) none))) (((cond (decide (y5=0)) (some (decide ((x.1.1.2.2.1.length:Int)>=(3:Int)))) (some false)):La).bind fun j20=>cond j20 (cond (!decide ((3:Int)=(0:Int))) ((u1m (y1,x.2.1)).bind fun y21=>some (y21,(0,(0,0,0,0,([]:Lj),([]:Lh),false,(⟨#[]⟩:Hs)),(⟨#[]⟩:Hs),false,([]:Lf),([]:Lc),([]:Lc),0,0),3)) (cond (y4v y2 x.1.2.length) ((u8p (x.1.1,rdL u0a x.1.2 y2.toNat,x.2.2)).bind fun y22=>(u2d (y22,x.2.2)).bind fun y23=>cond (y4v y23 y22.2.2.1.length) ((u05 (rdL u0a y22.2.2.1 y23.toNat)).bind fun y24=>(u1m ((y22,y1.2),x.2.1)).bind fun y25=>some (y25,(2,y24,(⟨#[]⟩:Hs),false,([]:Lf),([]:Lc),([]:Lc),0,0),0)) none) none)) (cond (!decide (y5=0)) ((u1m (y1,x.2.1)).bind fun y26=>some (y26,(0,(0,0,0,0,([]:Lj),([]:Lh),false,(⟨#[]⟩:Hs)),(⟨#[]⟩:Hs),false,([]:Lf),([]:Lc),([]:Lc),0,0),y5)) (cond (y4v y2 x.1.2.length) ((u8p (x.1.1,rdL u0a x.1.2 y2.toNat,x.2.2)).bind fun y27=>(u2d (y27,x.2.2)).bind fun y28=>cond (y4v y28 y27.2.2.1.length) ((u05 (rdL u0a y27.2.2.1 y28.toNat)).bind fun y29=>(u1m ((y27,y1.2),x.2.1)).bind fun y30=>some (y30,(2,y29,(⟨#[]⟩:Hs),false,([]:Lf),([]:Lc),([]:Lc),0,0),0)) none) none))))))
theorem o56:r5q=q9c:=zC 227 func227
def s50(x:Z38):Ht Z45:=zK 141 x
def r6r (x:Z38):Ht Z45:=(r5q (x.1.1.1,x.2)).bind fun y1=>cond (decide (y1.2.2=0)) ((s05 (x.1,y1.2.1)).bind fun y2=>cond (!y2.1) ((u0s y2.2.1.1).bind fun y3=>(u1m (y3,x.2.1)).bind fun y4=>some (3,(y4,y2.2.1.2),y2.2.2)) (some (y1.2.2,(y1.1,y2.2.1.2),y2.2.2))) (some (y1.2.2,(y1.1,x.1.1.2),x.1.2))
theorem p6e:s50=r6r:=zC 141 func141
def r9t(x:Z83):Ht Z15:=zK 228 x
def p24 (x:Z83):Ht Z15:=(u0s x.1).bind fun y1=>(u2d (x.1.1,x.2.1)).bind fun y2=>cond (decide (y2<0)) (some (y1,(0,(0,0,0,0,([]:Lj),([]:Lh),false,(⟨#[]⟩:Hs)),(⟨#[]⟩:Hs),false,([]:Lf),([]:Lc),([]:Lc),0,0),1)) (((cond x.2.2 ((s67 x.1.1).bind fun y3=>some y3) (some false)):La).bind fun j4=>cond j4 (some (y1,(0,(0,0,0,0,([]:Lj),([]:Lh),false,(⟨#[]⟩:Hs)),(⟨#[]⟩:Hs),false,([]:Lf),([]:Lc),([]:Lc),0,0),3)) (cond x.2.2 (cond (y4v y2 x.1.1.2.2.1.length) ((u9h (x.1.1,rdL u0a x.1.1.2.2.1 y2.toNat)).bind fun y5=>(t91 (y5,y1.2)).bind fun y6=>some ((y6,y1.2),(3,(0,0,0,0,([]:Lj),([]:Lh),false,(⟨#[]⟩:Hs)),x.2.1,x.2.2,([]:Lf),([]:Lc),([]:Lc),0,0),0)) none) ((s6y (x.1.1,x.2.1)).bind fun y7=>(t91 (y7,y1.2)).bind fun y8=>some ((y8,y1.2),(3,(0,0,0,0,([]:Lj),([]:Lh),false,(⟨#[]⟩:Hs)),x.2.1,x.2.2,([]:Lf),([]:Lc),([]:Lc),0,0),0))))
theorem o95:r9t=p24:=zC 228 func228
def t0l(x:Z35):Ht Z45:=zK 143 x
def q1f (x:Z35):Ht Z45:=(r9t (x.1.1.1,x.2)).bind fun y1=>cond (decide (y1.2.2=0)) ((s05 (x.1,y1.2.1)).bind fun y2=>cond (!y2.1) (some (3,y2.2)) (some (y1.2.2,(y1.1,y2.2.1.2),y2.2.2))) (some (y1.2.2,(y1.1,x.1.1.2),x.1.2))
theorem p9y:t0l=q1f:=zC 143 func143
def t4b(x:Z25):Ht Z45:=zK 75 x
def p3k (x:Z25):Ht Z45:=cond (decide (x.2.1=6)) ((u7l (x.1.1.1,x.2.2.1)).bind fun y1=>cond (decide (y1>=0)) (cond (y4v y1 x.1.1.1.2.length) ((s2y (x.1,x.2.2.1)).bind fun y2=>(u41 (y2.2,x.1.1.1.1.2.2.2.1,rdL u0a x.1.1.1.2 y1.toNat)).bind fun y3=>some (y2.1,y3)) none) ((s2y (x.1,x.2.2.1)).bind fun y4=>(u41 (y4.2,x.1.1.1.1.2.2.2.1,0,0,0,0,([]:Lj),([]:Lh),false,(⟨#[]⟩:Hs))).bind fun y5=>some (y4.1,y5))) (cond (decide (x.2.1=7)) ((q6q (x.1.1.1,x.2.2.1)).bind fun y6=>some (y6.2,(y6.1,x.1.1.2),x.1.2)) (cond (decide (x.2.1=8)) ((s50 (x.1,x.2.2.1,x.2.2.2.1)).bind fun y7=>some y7) ((u2d (x.1.1.1.1,x.2.2.2.1)).bind fun y8=>cond (decide (y8>=0)) (cond (y4v y8 x.1.1.1.1.2.2.1.length) ((t0l (x.1,x.2.2.2.1,decide (x.2.1=9))).bind fun y9=>(u41 (y9.2,x.1.1.1.1.2.2.2.1,rdL u0a x.1.1.1.1.2.2.1 y8.toNat)).bind fun y10=>some (y9.1,y10)) none) ((t0l (x.1,x.2.2.2.1,decide (x.2.1=9))).bind fun y11=>(u41 (y11.2,x.1.1.1.1.2.2.2.1,0,0,0,0,([]:Lj),([]:Lh),false,(⟨#[]⟩:Hs))).bind fun y12=>some (y11.1,y12)))))
theorem j0l:t4b=p3k:=zC 75 func75
def r34(x:Z25):Ht Z37:=zK 35 x
def p7o (x:Z25):Ht Z37:=cond (decide (x.2.1=1)) (cond (decide (x.2.1=1)) ((t1g x).bind fun y1=>some y1) (cond (decide (x.2.1=11)) ((u9y x.1.1).bind fun y2=>cond (!y2.2) (some (3,(⟨#[]⟩:Hs),y2.1,x.1.2)) (some (0,(⟨#[]⟩:Hs),y2.1,x.1.2))) (cond (decide (x.2.1=12)) ((t1f (x.1.1.2,x.2)).bind fun y3=>(u8q y3).bind fun y4=>cond (!y4.2) (some (1,(⟨#[]⟩:Hs),x.1)) (some (0,(⟨#[]⟩:Hs),y4.1,x.1.2))) ((t4b x).bind fun y5=>some (y5.1,(⟨#[]⟩:Hs),y5.2))))) (cond (decide (x.2.1=2)) (cond (decide (x.2.1=2)) ((t1g x).bind fun y6=>some y6) (cond (decide (x.2.1=11)) ((u9y x.1.1).bind fun y7=>cond (!y7.2) (some (3,(⟨#[]⟩:Hs),y7.1,x.1.2)) (some (0,(⟨#[]⟩:Hs),y7.1,x.1.2))) (cond (decide (x.2.1=12)) ((t1f (x.1.1.2,x.2)).bind fun y8=>(u8q y8).bind fun y9=>cond (!y9.2) (some (1,(⟨#[]⟩:Hs),x.1)) (some (0,(⟨#[]⟩:Hs),y9.1,x.1.2))) ((t4b x).bind fun y10=>some (y10.1,(⟨#[]⟩:Hs),y10.2))))) (cond (decide (x.2.1=3)) (cond (decide (x.2.1=3)) ((t1g x).bind fun y11=>some y11) (cond (decide (x.2.1=11)) ((u9y x.1.1).bind fun y12=>cond (!y12.2) (some (3,(⟨#[]⟩:Hs),y12.1,x.1.2)) (some (0,(⟨#[]⟩:Hs),y12.1,x.1.2))) (cond (decide (x.2.1=12)) ((t1f (x.1.1.2,x.2)).bind fun y13=>(u8q y13).bind fun y14=>cond (!y14.2) (some (1,(⟨#[]⟩:Hs),x.1)) (some (0,(⟨#[]⟩:Hs),y14.1,x.1.2))) ((t4b x).bind fun y15=>some (y15.1,(⟨#[]⟩:Hs),y15.2))))) (cond (decide (x.2.1=4)) (cond (decide (x.2.1=4)) ((t1g x).bind fun y16=>some y16) (cond (decide (x.2.1=11)) ((u9y x.1.1).bind fun y17=>cond (!y17.2) (some (3,(⟨#[]⟩:Hs),y17.1,x.1.2)) (some (0,(⟨#[]⟩:Hs),y17.1,x.1.2))) (cond (decide (x.2.1=12)) ((t1f (x.1.1.2,x.2)).bind fun y18=>(u8q y18).bind fun y19=>cond (!y19.2) (some (1,(⟨#[]⟩:Hs),x.1)) (some (0,(⟨#[]⟩:Hs),y19.1,x.1.2))) ((t4b x).bind fun y20=>some (y20.1,(⟨#[]⟩:Hs),y20.2))))) (cond (decide (x.2.1=5)) ((t1g x).bind fun y21=>some y21) (cond (decide (x.2.1=11)) ((u9y x.1.1).bind fun y22=>cond (!y22.2) (some (3,(⟨#[]⟩:Hs),y22.1,x.1.2)) (some (0,(⟨#[]⟩:Hs),y22.1,x.1.2))) (cond (decide (x.2.1=12)) ((t1f (x.1.1.2,x.2)).bind fun y23=>(u8q y23).bind fun y24=>cond (!y24.2) (some (1,(⟨#[]⟩:Hs),x.1)) (some (0,(⟨#[]⟩:Hs),y24.1,x.1.2))) ((t4b x).bind fun y25=>some (y25.1,(⟨#[]⟩:Hs),y25.2))))))))
theorem j3g:r34=p7o:=zC 35 func35
def q2q(x:Unit):Ht s70:=zK 148 x
def q03 (x:Unit):Ht s70:=(r5m ()).bind fun y1=>some (y1,([]:Lc))
theorem p9m:q2q=q03:=zC 148 func148
def t5w(x:d53):Ht Hs:=zK 42 x
def u98(g:(Int×(Int×d60))->Ht d4c)(x:(Int×(Int×d60))):Ht d4c:=cond (decide (x.2.2.2<x.1)) (cond (y4v x.2.2.2 x.2.2.1.length) (g (x.1,x.2.1,x.2.2.1.set x.2.2.2.toNat x.2.1,i64.wrap (x.2.2.2+1))) none) (some (.inl x.2.2.1))
def u4d:=lpW _ _ u98
theorem t0m x:u4d x=u98 u4d x:=zW q2j 42 f42 3 20 x
def s6o (x:d53):Ht Hs:=cond (decide (0<=x.1)&&decide (x.1<=1099511627776)) ((u4d (x.1,x.2,List.replicate x.1.toNat (Ty.int .u8).zero,0)).bind fun|.inl o2=>some (y7s o2)|.inr z3=>none) none
theorem r47:t5w=s6o:=zC 42 func42
def s65(x:Unit):Ht Hs:=zK 311 x
def r4y (x:Unit):Ht Hs:=(t5w (64,0)).bind fun y1=>some y1
theorem p0d:s65=r4y:=zC 311 func311
def p0t(x:Int):Ht r25:=zK 231 x
def s1t(g:d86->Ht j84)(x:d86):Ht j84:=cond (decide (x.2.2.2<x.1)) ((s65 ()).bind fun y2=>cond (Nat.ble (x.2.2.1.1.length+([y2]:Lg).length) z7z) (g (x.1,x.2.1,(x.2.2.1.1++([y2]:Lg),x.2.2.1.2),i64.wrap (x.2.2.2+1))) none) (some (.inl (x.2.1,x.2.2.1)))
def u8h:=lpW _ _ s1t
theorem s20 x:u8h x=s1t u8h x:=zW q15 231 f231 5 23 x
def r4w (x:Int):Ht r25:=(u0q (x,1,100)).bind fun y1=>cond (!y1) (some ((([]:Lg),([]:Ll)),false)) ((u8h (x,(([]:Lg),([]:Ll)),(([]:Lg),([]:Ll)),0)).bind fun|.inl o4=>some (o4.2,true)|.inr z5=>none)
theorem p0a:p0t=r4w:=zC 231 func231
def s9s(x:Unit):Ht u71:=zK 149 x
def r88 (x:Unit):Ht u71:=(u9p ()).bind fun y1=>(p0t y1).bind fun y2=>some y2.1
theorem p32:s9s=r88:=zC 149 func149
def q6r(x:Unit):Ht Z76:=zK 82 x
def q5k (x:Unit):Ht Z76:=(q2q ()).bind fun y1=>(s9s ()).bind fun y2=>some (y1,y2)
theorem o21:q6r=q5k:=zC 82 func82
def r1o(x:Unit):Ht Z46:=zK 41 x
def q5n (x:Unit):Ht Z46:=(q6r ()).bind fun y1=>some (y1,([]:Lc),([]:Ld),([]:Lg))
theorem o23:r1o=q5n:=zC 41 func41
def s4z(x:d1o):Ht Z42:=zK 18 x
def t86(g:Z30->Ht (Z33⊕Unit))(x:Z30):Ht (Z33⊕Unit):=((cond (decide (x.2.2.2<(x.1.length:Int))) (some x.2.2.1) (some false)):La).bind fun j1=>cond j1 (cond (y4v x.2.2.2 x.1.length) ((t5v (rdL u1a x.1 x.2.2.2.toNat)).bind fun y2=>g (x.1,x.2.1,y2,i64.wrap (x.2.2.2+1))) none) (some (.inl (x.1,x.2.1,x.2.2.1)))
def t2c:=lpW _ _ t86
theorem r8p x:t2c x=t86 t2c x:=zW r7l 18 f18 3 58 x
def t6o(g:Z3->Ht (Z7⊕Unit))(x:Z3):Ht (Z7⊕Unit):=cond (decide (x.2.2.2<(x.1.length:Int))) (cond (y4v x.2.2.2 x.1.length) ((r34 (x.2.2.1,rdL u1a x.1 x.2.2.2.toNat)).bind fun y6=>cond (Nat.ble (y6.2.2.2.2.1.length+([y6.1]:Ld).length) z7z) (cond (Nat.ble (y6.2.2.2.2.2.length+([y6.2.1]:Lg).length) z7z) (g (x.1,x.2.1,(y6.2.2.1,y6.2.2.2.1,y6.2.2.2.2.1++([y6.1]:Ld),y6.2.2.2.2.2++([y6.2.1]:Lg)),i64.wrap (x.2.2.2+1))) none) none) none) (some (.inl (x.2.1,x.2.2.1)))
def t0x:=lpW _ _ t6o
theorem r4o x:t0x x=t6o t0x x:=zW r3s 18 f18 10 58 x
def q5i (x:d1o):Ht Z42:=(t2c (x,((((([]:Lf),([]:Lc),([]:Lc),0,0),([]:Lc)),([]:Lg),([]:Ll)),([]:Lc),([]:Ld),([]:Lg)),decide ((x.length:Int)<=(90:Int)),0)).bind fun|.inl o4=>cond (!o4.2.2) (some (((((([]:Lf),([]:Lc),([]:Lc),0,0),([]:Lc)),([]:Lg),([]:Ll)),([]:Lc),([]:Ld),([]:Lg)),false)) ((r1o ()).bind fun y5=>(t0x (o4.1,o4.2.1,y5,0)).bind fun|.inl o8=>some (o8.2,true)|.inr z9=>none)|.inr z10=>none
theorem o2z:s4z=q5i:=zC 18 func18
def t66(x:q3s):Ht d3v:=zK 19 x
def r2y (x:q3s):Ht d3v:=(s9v x).bind fun y1=>(u2l (y1,8)).bind fun y2=>(u2l (y2.2,60)).bind fun y3=>(s2z x).bind fun y4=>cond (!decide ((y4.length:Int)=0)) (cond (y4v (Int.tmod y3.1 (y4.length:Int)) y4.length) (cond (decide (y2.1=0)) (some (Int.tmod y3.1 (14:Int),(rdL u1a y4 (Int.tmod y3.1 (y4.length:Int)).toNat).2)) (cond (decide (y2.1=1)) (some ((rdL u1a y4 (Int.tmod y3.1 (y4.length:Int)).toNat).1,(- 1:Int),(rdL u1a y4 (Int.tmod y3.1 (y4.length:Int)).toNat).2.2)) (cond (decide (y2.1=2)) ((t5w (i64.wrap ((6:Int)+(Int.tmod y3.1 (2:Int))),97)).bind fun y5=>some ((rdL u1a y4 (Int.tmod y3.1 (y4.length:Int)).toNat).1,(rdL u1a y4 (Int.tmod y3.1 (y4.length:Int)).toNat).2.1,y5,(rdL u1a y4 (Int.tmod y3.1 (y4.length:Int)).toNat).2.2.2)) (cond (decide (y2.1=3)) ((t5w (i64.wrap ((20:Int)+(Int.tmod y3.1 (2:Int))),97)).bind fun y6=>some ((rdL u1a y4 (Int.tmod y3.1 (y4.length:Int)).toNat).1,(rdL u1a y4 (Int.tmod y3.1 (y4.length:Int)).toNat).2.1,(rdL u1a y4 (Int.tmod y3.1 (y4.length:Int)).toNat).2.2.1,y6,(rdL u1a y4 (Int.tmod y3.1 (y4.length:Int)).toNat).2.2.2.2)) (cond (decide (y2.1=4)) (cond (decide (0<=(i64.wrap ((10:Int)+(Int.tmod y3.1 (2:Int)))))&&decide ((i64.wrap ((10:Int)+(Int.tmod y3.1 (2:Int))))<=1099511627776)) (some ((rdL u1a y4 (Int.tmod y3.1 (y4.length:Int)).toNat).1,(rdL u1a y4 (Int.tmod y3.1 (y4.length:Int)).toNat).2.1,(rdL u1a y4 (Int.tmod y3.1 (y4.length:Int)).toNat).2.2.1,(rdL u1a y4 (Int.tmod y3.1 (y4.length:Int)).toNat).2.2.2.1,List.replicate (i64.wrap ((10:Int)+(Int.tmod y3.1 (2:Int)))).toNat (Ty.int .i64).zero)) none) (some (rdL u1a y4 (Int.tmod y3.1 (y4.length:Int)).toNat))))))) none) none
theorem p31:t66=r2y:=zC 19 func19
def p0s(x:q3s):La:=zK 4 x
def s1l(g:Z26->Ht (Z28⊕Unit))(x:Z26):Ht (Z28⊕Unit):=cond (decide (x.2.2.2.2<x.2.2.1)) (cond (y4v x.2.2.2.2 x.2.1.length) ((t5l (x.2.2.2.1,rdL u1a x.2.1 x.2.2.2.2.toNat)).bind fun y4=>g (x.1,x.2.1,x.2.2.1,y4,i64.wrap (x.2.2.2.2+1))) none) (some (.inl (x.1,x.2.1,x.2.2.1,x.2.2.2.1)))
def t0a:=lpW _ _ s1l
theorem q23 x:t0a x=s1l t0a x:=zW q1w 4 f4 9 118 x
def q83 (x:q3s):La:=(o72 x).bind fun y1=>cond y1 (some true) ((s5w x).bind fun y2=>cond (decide ((y2.length:Int)>(12:Int))) ((t78 ()).bind fun y3=>(t0a (x,y2,12,y3,0)).bind fun|.inl o6=>cond (decide (0<=(0:Int))&&decide ((0:Int)<=o6.2.2.1)&&decide (o6.2.2.1<=(o6.2.1.length:Int))) ((u35 ((o6.2.1.take o6.2.2.1.toNat).drop (0:Int).toNat)).bind fun y7=>(u35 o6.2.1).bind fun y8=>(s4z o6.2.1).bind fun y9=>(u35 ([(0,0,(⟨#[]⟩:Hs),(⟨#[]⟩:Hs),([]:Ld))]:Lk)).bind fun y10=>(t66 o6.1).bind fun y11=>((cond y7.2 (cond y8.2 (cond (!y10.2) ((t2t (o6.2.2.2.2.2.1,y7.1.2.2.1)).bind fun y12=>cond y12 ((u6n (o6.2.2.2.2.2.2,y7.1.2.2.2)).bind fun y13=>cond y13 ((u8n (o6.2.2.2.1,y7.1.1)).bind fun y14=>cond y14 ((t2t (y8.1.2.2.1,y9.1.2.2.1)).bind fun y15=>cond y15 ((u6n (y8.1.2.2.2,y9.1.2.2.2)).bind fun y16=>cond y16 ((u8n (y8.1.1,y9.1.1)).bind fun y17=>cond y17 ((u9c y11).bind fun y18=>(t5v y11).bind fun y19=>some (y18==y19)) (some false)) (some false)) (some false)) (some false)) (some false)) (some false)) (some false)) (some false)) (some false)):La).bind fun j20=>some j20) none|.inr z21=>none) ((t78 ()).bind fun y22=>(t0a (x,y2,(y2.length:Int),y22,0)).bind fun|.inl o25=>cond (decide (0<=(0:Int))&&decide ((0:Int)<=o25.2.2.1)&&decide (o25.2.2.1<=(o25.2.1.length:Int))) ((u35 ((o25.2.1.take o25.2.2.1.toNat).drop (0:Int).toNat)).bind fun y26=>(u35 o25.2.1).bind fun y27=>(s4z o25.2.1).bind fun y28=>(u35 ([(0,0,(⟨#[]⟩:Hs),(⟨#[]⟩:Hs),([]:Ld))]:Lk)).bind fun y29=>(t66 o25.1).bind fun y30=>((cond y26.2 (cond y27.2 (cond (!y29.2) ((t2t (o25.2.2.2.2.2.1,y26.1.2.2.1)).bind fun y31=>cond y31 ((u6n (o25.2.2.2.2.2.2,y26.1.2.2.2)).bind fun y32=>cond y32 ((u8n (o25.2.2.2.1,y26.1.1)).bind fun y33=>cond y33 ((t2t (y27.1.2.2.1,y28.1.2.2.1)).bind fun y34=>cond y34 ((u6n (y27.1.2.2.2,y28.1.2.2.2)).bind fun y35=>cond y35 ((u8n (y27.1.1,y28.1.1)).bind fun y36=>cond y36 ((u9c y30).bind fun y37=>(t5v y30).bind fun y38=>some (y37==y38)) (some false)) (some false)) (some false)) (some false)) (some false)) (some false)) (some false)) (some false)) (some false)):La).bind fun j39=>some j39) none|.inr z40=>none))
theorem o5x:p0s=q83:=zC 4 func4
end
end Go.Proofs.YtkphhjdbdnoekaaGreatDoor.Ab
