import Derived.Test.YtkphhjdbdnoekaaGreatDoorAbRefusedT3
namespace Go.Proofs.YtkphhjdbdnoekaaGreatDoor.Ab
open Go Go.IntKind
set_option linter.all false
theorem j8b{W:Int×Hs×Int×Int->Ht ((Int×Hs×Int)⊕Unit)}
 (hW:∀x,W x=(bif decide (x.2.2.2<(8:Int)) then(bif decide (Int.tmod x.1 (2:Int)=(1:Int)) then W (u32.wrap ((BitVec.ofInt u32.bits (u32.wrap (Int.tdiv x.1 (2:Int)))^^^BitVec.ofInt u32.bits (3558460437:Int)).toNat:Int),x.2.1,x.2.2.1,i64.wrap (x.2.2.2+(1:Int)))
  else W (u32.wrap (Int.tdiv x.1 (2:Int)),x.2.1,x.2.2.1,i64.wrap (x.2.2.2+(1:Int)))) else some (.inl (x.1,x.2.1,x.2.2.1)))) (t:Hs) (k:Int):
 ∀(n:Nat) (x:Int) (i:Nat),i+n=8->W (x,t,k,(i:Int))=some (.inl (o40 n x,t,k)):=by
 intro n
 induction n with
 |zero=>
  intro x i hi;have:i=8:=by omega
  subst this;rw[hW];rfl
 |succ n ih=>
  intro x i hi;rw[hW];simp only;rw[p0m (by omega),y7x (by omega),ih _ (i+1) (by omega),ih _ (i+1) (by omega)];rw[show o40 (n+1) x=o40 n (d16 x) from rfl];unfold d16 d6z;cases decide (Int.tmod x 2=1)<;>rfl
theorem j8c(f:Int->UInt8->Int)(t:Hs){W:Int×Hs×Int->Ht (Int⊕Unit)}(ht:t.size<=1099511627776)
 (hend:∀x,W (x,t,(t.size:Int))=some (.inl x))
 (hstep:∀(i:Nat),i<t.size-> ∀x,W (x,t,(i:Int))=W (f x (t.data.toList.getD i 0),t,((i+1:Nat):Int))) (x:Int):W (x,t,0)=some (.inl (t.data.toList.foldl f x)):=by
 have e:t.size=t.data.toList.length:=p1x t
 exact t14 W t.data.toList (fun x i=>(x,t,i)) f (fun x=> .inl x) (fun _ _=>True) (fun x _=>by rw[←e];exact hend x)
  (fun i hi x _=>⟨trivial,by
   rw[hstep i (by rw[e];exact hi) x];congr 2;rw[A5,A4 hi];rfl⟩) x trivial
theorem j2v(x:Int)(t:Hs)(ht:t.size<=1099511627776):r5y (x,t)=some (t.data.toList.foldl o41 x):=by
 have L:=j8c o41 t (W:=s2d) ht
  (fun x=>by rw[q29];simp only[s1i,u0b,Am,Ah,Aa])
  (fun i hi x=>by
   rw[q29];simp only[s1i,u0b,hi,Ae,Ad,y8h hi,zTn];have:=j8b (W:=s2e) (fun x=>o0n x) t (i:Int) 8 (d6z x (u32.wrap ((t.data.toList.getD i 0).toNat:Int))) 0 rfl;unfold d6z at this;rw[show((0:Nat):Int)=0 from rfl]at this;rw[this];simp only[zOb,y7x (show i<4611686018427387904 by omega)];rfl) x
 rw[o5z];unfold q9a;simp only[L,zOb]
theorem p7f(x:Int)(t:Hs)(ht:t.size<=1099511627776):r57 (x,t)=some (t.data.toList.foldl o41 x):=by
 have L:=j8c o41 t (W:=s2k) ht
  (fun x=>by rw[q3t];simp only[s12,u0b,Am,Ah,Aa])
  (fun i hi x=>by
   rw[q3t];simp only[s12,u0b,hi,Ae,Ad,y8h hi,zTn];have:=j8b (W:=s2l) (fun x=>o0p x) t (i:Int) 8 (d6z x (u32.wrap ((t.data.toList.getD i 0).toNat:Int))) 0 rfl;unfold d6z at this;rw[show((0:Nat):Int)=0 from rfl]at this;rw[this];simp only[zOb,y7x (show i<4611686018427387904 by omega)];rfl) x
 rw[o6o];unfold q9x;simp only[L,zOb]
theorem r0p(t:Hs)(ht:t.size<=1099511627776):t92 t=some (o4u t):=by
 rw[j0a];unfold p25 o4u;have e1:decide ((t.size:Int) >20000)= !decide (t.size<=20000):=by by_cases h:t.size<=20000<;>simp[h] <;>omega
 rw[e1,j3j];unfold p7q;rw[j2v _ _ ht];simp only[zOb];by_cases h:t.size<=20000
 .rw[Bb h,Al h];simp only[Ap,Aa];rw[p0m (by rw[u6c];simp;omega)];rfl
 .rw[A7 h,Ao h];rfl
theorem r9h(t:Hs)(ht:t.size<=1099511627776):s5b t=some (o4u t):=by
 rw[j0s];unfold p3o o4u;have e1:decide ((t.size:Int) >20000)= !decide (t.size<=20000):=by by_cases h:t.size<=20000<;>simp[h] <;>omega
 rw[e1,p8e];unfold q5u;rw[p7f _ _ ht];simp only[zOb];rw[p0v];unfold q96;simp only[zOb];by_cases h:t.size<=20000
 .rw[Bb h,Al h];simp only[Ap,Aa];rw[p0m (by rw[u6c];simp;omega)];rfl
 .rw[A7 h,Ao h];rfl
theorem t39(k:Int):(y7s [k]).size=1:=u6c _
theorem q7z{k:Int}(h0:0<=k)(h1:k<=255): [u8.wrap k] =z7w (y7s [u8.wrap k]):=by
 obtain⟨n,rfl⟩:∃n:Nat,k=n:=⟨k.toNat,by omega⟩;rw[j68,show((n:Int) % 256)=n by omega];unfold z7w y7s;simp;omega
theorem t7i(r:r21)(hw:c2f.wt r<=549755813888):u45 r=some (u0u r):=by
 have hr:=q7b r;rw[p6q];unfold r6z u0u;rw[p2q r hw];simp only[zOb];cases hc:u88 r
 .rfl
 .have h:=d48.mp hc;have hz:=r0h h;simp only[Ap,Aa,Bl];cases h with
  |thr t h hs=>
   have:=s5i h
   have ht:=q4j t (by have:u0y.wt t<=c2f.wt (1,t,emp,false,u26):=by rw[hr];simp only;omega
                      omega)
   rw[Al (p5c.mpr h)]at ht;simp only[Int.reduceEq,Ae,Ah,Ad,Aa];rw[ht];simp only[zOb];rw[p0m (by rw[t39];omega),r9h _ (by rw[Af,t39];omega)];rfl
  |rdy t h hs=>
   have:=s5i h
   have ht:=q4j t (by have:u0y.wt t<=c2f.wt (2,t,emp,false,u26):=by rw[hr];simp only;omega
                      omega)
   rw[Al (p5c.mpr h)]at ht;simp only[Int.reduceEq,Ae,Ah,Ad,Aa];rw[ht];simp only[zOb];rw[p0m (by rw[t39];omega),r9h _ (by rw[Af,t39];omega)];rfl
  |fin n y h=>
   have:=u2z h;have q:=u09 (s:=n) (by omega);simp only[Int.reduceEq,Ae,Ah,Ad,Aa];rw[s3j (by omega)];simp only[zOb];rw[p0m (by rw[t39];omega),o0r];simp only[zOb];rw[p0m (by simp only[Af,t39,u4b];omega),r9h _ (by simp only[Af,t39,u4b];omega),t1z];rfl
  |bas b h=>
   have:=p56 h;have a1:=(d2q.mp h.vs).2.2;have a2:=h.plen;have a3:=h.rlen
   have ht:=o85 b (by have:d8i.wt b<=c2f.wt (4,u3i,emp,false,b):=by rw[hr];simp only;omega
                      omega)
   rw[Al (o72.mpr h)]at ht;simp only[Int.reduceEq,Ae,Ah,Ad,Aa];rw[ht];simp only[zOb];rw[p0m (by rw[t39];omega),r9h _ (by rw[Af,t39];omega)];rfl
theorem t7h(r:r21)(hw:c2f.wt r<=549755813888):u43 r=some (u0u r):=by
 have hr:=q7b r;rw[p6e];unfold r6n u0u;rw[p2p r hw];simp only[zOb];cases hc:u88 r
 .rfl
 .have h:=d48.mp hc;have hz:=r0h h;simp only[Ap,Aa,Bl];cases h with
  |thr t h hs=>
   have:=s5i h
   have ht:=q4i t (by have:u0y.wt t<=c2f.wt (1,t,emp,false,u26):=by rw[hr];simp only;omega
                      omega)
   rw[Al (p5c.mpr h)]at ht;simp only[Int.reduceEq,Ae,Ah,Ad,Aa];rw[ht];simp only[zOb];rw[p5p (by rw[t0e];simp;omega),q7z (k:=1) (by omega) (by omega),←s3o,s3d,r0p _ (by rw[Af,t39];omega)];rfl
  |rdy t h hs=>
   have:=s5i h
   have ht:=q4i t (by have:u0y.wt t<=c2f.wt (2,t,emp,false,u26):=by rw[hr];simp only;omega
                      omega)
   rw[Al (p5c.mpr h)]at ht;simp only[Int.reduceEq,Ae,Ah,Ad,Aa];rw[ht];simp only[zOb];rw[p5p (by rw[t0e];simp;omega),q7z (k:=2) (by omega) (by omega),←s3o,s3d,r0p _ (by rw[Af,t39];omega)];rfl
  |fin n y h=>
   have:=u2z h;have q:=u09 (s:=n) (by omega);simp only[Int.reduceEq,Ae,Ah,Ad,Aa];rw[q7z (k:=3) (by omega) (by omega),s7w _ [n] (by intro m hm;simp only[A8,Du,Em]at hm;subst hm;omega) (by simp) (by rw[t39];omega)];simp only[zOb];rw[r9m,r4e _ _ (by rw[Af,t39];omega)];simp only[zOb];rw[s3d,r0p _ (by simp only[Af,t39,u4b];omega),t1z];rfl
  |bas b h=>
   have:=p56 h;have a1:=(d2q.mp h.vs).2.2;have a2:=h.plen;have a3:=h.rlen
   have ht:=o84 b (by have:d8i.wt b<=c2f.wt (4,u3i,emp,false,b):=by rw[hr];simp only;omega
                      omega)
   rw[Al (o72.mpr h)]at ht;simp only[Int.reduceEq,Ae,Ah,Ad,Aa];rw[ht];simp only[zOb];rw[p5p (by rw[t0e];simp;omega),q7z (k:=4) (by omega) (by omega),←s3o,s3d,r0p _ (by rw[Af,t39];omega)];rfl
def inT(s:Hs)(c:Cur):Prop:=0<=c.1/\c.1<=(s.size:Int)
def bad(c:Cur)(k:Int):Int:=if c.2=true then k else 0
theorem u2j{s:Hs}{c:Cur}(h:inT s c):inT s (u22 s c).2/\0<=(u22 s c).1/\(u22 s c).1<=1000000000/\c.1+1<=(u22 s c).2.1+bad (u22 s c).2 1:=by
 unfold u22;split
 .refine⟨h,by simp,by simp,?_⟩;simp only[bad,Bl];omega
 .rename_i q;simp only[Hr,Ey,Bool.not_eq_false]at q;have:=s3t q.2;refine⟨⟨?_,?_⟩,?_,?_,?_⟩
  .simp only;omega
  .simp only;omega
  .simp only;omega
  .simp only;omega
  .simp only[bad,Br,Bk];omega
theorem o7k{t:Hs}{a:Int}(h:(u0p t a).2.2=true):a+1+((u0p t a).1.size:Int)<=(u0p t a).2.1/\0<=a:=by
 unfold u0p at h⊢;split at h
 .rename_i hc;rw[Al hc];have:=s3t hc.1;simp only[Bd];omega
 .cases h
theorem t03{s:Hs}{c:Cur}(h:inT s c):inT s (u3e s c).2/\c.1+1+((u3e s c).1.size:Int)<=(u3e s c).2.1+bad (u3e s c).2 1:=by
 unfold u3e;split
 .refine⟨h,?_⟩;simp only[bad,Bl,emp,ByteArray.size];simp
 .rename_i q;simp only[Hr,Ey,Bool.not_eq_false]at q;have h1:=q68 q.2;have h2:=o7k q.2;refine⟨⟨?_,?_⟩,?_⟩
  .simp only;omega
  .simp only;omega
  .simp only[bad,Br,Bk];omega
theorem j78{s:Hs}{c:Cur}(h:inT s c):inT s (p5q s c).2/\c.1+1<=(p5q s c).2.1+bad (p5q s c).2 1:=by
 unfold p5q;split
 .refine⟨h,?_⟩;simp only[bad,Bl];omega
 .rename_i q;simp only[Hr,Decidable.not_not]at q;unfold inT;simp only[bad,Br,Bk];omega
theorem t2h(c:Cur){k:Int}(hk:0<=k):0<=bad c k/\bad c k<=k:=by unfold bad;split<;>omega
theorem p31{c c' :Cur}(h:c.2=true->c'.2=true){k:Int}(hk:0<=k):bad c k<=bad c' k:=by
 unfold bad;by_cases q:c.2=true
 .rw[Al q,Al (h q)];omega
 .rw[Ao q];split<;>omega
def d5s{E:Type}(w:E->Nat)(k:Int)(s:Hs)(f:Cur->E×Cur):Prop:= ∀c,inT s c->inT s (f c).2/\c.1+1+(w (f c).1:Int)<=(f c).2.1+bad (f c).2 k
theorem s1a{E:Type}{w:E->Nat}{k:Int}{s:Hs}{f:Cur->E×Cur}(hk:0<=k)(hf:d5s w k s f):∀(n:Nat) (c:Cur) (a:Hu E),inT s c->
 inT s (u3h f n c a).2/\c.1+((u3h f n c a).1.length+((u3h f n c a).1.map w).sum:Nat)<=(u3h f n c a).2.1+(a.length+(a.map w).sum:Nat)+bad (u3h f n c a).2 k
 |0,c,a,h=>⟨h,by have:=t2h (u3h f 0 c a).2 hk;simp only[u3h] at*;omega⟩|n+1,c,a,h=>by
  simp only[u3h];split
  .exact⟨h,by have:=t2h c hk;simp only;omega⟩
  .obtain⟨h1,h2⟩:=hf c h;obtain⟨h3,h4⟩:=s1a hk hf n (f c).2 (a++ [(f c).1]) h1;refine⟨h3,?_⟩;have e1:(a++ [(f c).1]).length=a.length+1:=by simp
   have e2:((a++ [(f c).1]).map w).sum=(a.map w).sum+w (f c).1:=by simp
   rw[e1,e2]at h4;have hm:bad (f c).2 k<=bad (u3h f n (f c).2 (a++ [(f c).1])).2 k/\(bad (f c).2 k≠0->u3h f n (f c).2 (a++ [(f c).1])=(a++ [(f c).1],(f c).2)):=by
    by_cases q:(f c).2.2=true
    .rw[s09 q];exact⟨Bv _,fun _=>rfl⟩
    .have:bad (f c).2 k=0:=by unfold bad;rw[Ao q]
     rw[this];exact⟨(t2h _ hk).1,fun h=>absurd rfl h⟩
   by_cases z:bad (f c).2 k=0
   .omega
   .have e:=hm.2 z;rw[e];simp only[e1,e2];omega
theorem q62(s:Hs):d5s t3d.wt 2 s (j1f s):=fun c h=>by
 obtain⟨h1,h2⟩:=t03 h;obtain⟨h3,h4⟩:=t03 h1;have b1:=p31 (c:=(u3e s c).2) (c' :=(u3e s (u3e s c).2).2) r8a (k:=1) (by omega);have b2:bad (u3e s (u3e s c).2).2 2=2*bad (u3e s (u3e s c).2).2 1:=by unfold bad;split<;>omega
 refine⟨h3,?_⟩;have e:t3d.wt (j1f s c).1=(u3e s c).1.size+(u3e s (u3e s c).2).1.size:=rfl;have e2:(j1f s c).2=(u3e s (u3e s c).2).2:=rfl;rw[e,e2];omega
theorem p44(s:Hs):d5s u2m.wt 3 s (rWr s):=fun c h=>by
 obtain⟨h1,h2⟩:=t03 h;obtain⟨h3,h4⟩:=t03 h1;obtain⟨h5,h6⟩:=j78 h3;have b1:=p31 (c:=(u3e s c).2) (c' :=(u3e s (u3e s c).2).2) r8a (k:=1) (by omega);have b2:=p31 (c:=(u3e s (u3e s c).2).2) (c' :=(p5q s (u3e s (u3e s c).2).2).2) p43 (k:=1) (by omega);have b3:bad (p5q s (u3e s (u3e s c).2).2).2 3=3*bad (p5q s (u3e s (u3e s c).2).2).2 1:=by unfold bad;split<;>omega
 refine⟨h5,?_⟩;have e:u2m.wt (rWr s c).1=(u3e s c).1.size+((u3e s (u3e s c).2).1.size+0):=rfl;have e2:(rWr s c).2=(p5q s (u3e s (u3e s c).2).2).2:=rfl;rw[e,e2];omega
theorem q64(s:Hs):d5s u0g.wt 4 s (j1h s):=fun c h=>by
 obtain⟨h1,h2⟩:=p44 s c h;obtain⟨h3,h4,h5,h6⟩:=u2j h1;have b1:=p31 (c:=(rWr s c).2) (c' :=(u22 s (rWr s c).2).2) t4d (k:=3) (by omega);have b3:bad (u22 s (rWr s c).2).2 4=bad (u22 s (rWr s c).2).2 1+bad (u22 s (rWr s c).2).2 3:=by unfold bad;split<;>omega
 refine⟨h3,?_⟩;have e:u0g.wt (j1h s c).1=u2m.wt (rWr s c).1:=rfl;have e2:(j1h s c).2=(u22 s (rWr s c).2).2:=rfl;rw[e,e2];omega
theorem o4m(m:Nat)(s:Hs):d5s u0y.wt 20 s (o0y m s):=fun c h=>by
 unfold o0y;simp only;obtain⟨a1,a2,a3,a4⟩:=u2j h;generalize hA:u22 s c=A at a1 a2 a3 a4⊢;obtain⟨b1,b2,b3,b4⟩:=u2j a1;have mB:A.2.2=true->(u22 s A.2).2.2=true:=t4d;generalize hB:u22 s A.2=B at b1 b2 b3 b4 mB⊢;obtain⟨d1,d2,d3,d4⟩:=u2j b1;have mD:B.2.2=true->(u22 s B.2).2.2=true:=t4d;generalize hD:u22 s B.2=D at d1 d2 d3 d4 mD⊢;obtain⟨e1,e2,e3,e4⟩:=u2j d1;have mE:D.2.2=true->(u22 s D.2).2.2=true:=t4d;generalize hE:u22 s D.2=E at e1 e2 e3 e4 mE⊢;obtain⟨f1,f2,f3,f4⟩:=u2j e1;have mF:E.2.2=true->(u22 s E.2).2.2=true:=t4d;generalize hF:u22 s E.2=F at f1 f2 f3 f4 mF⊢;obtain⟨g1,g2⟩:=s1a (by omega) (q62 s) (min F.1.toNat m) F.2 [] f1;have mG:F.2.2=true->(u3h (j1f s) (min F.1.toNat m) F.2 []).2.2=true:=fun q=>by rw[s09 q];exact q
 generalize hG:u3h (j1f s) (min F.1.toNat m) F.2 [] =G at g1 g2 mG⊢;obtain⟨k1,k2,k3,k4⟩:=u2j g1;have mK:G.2.2=true->(u22 s G.2).2.2=true:=t4d;generalize hK:u22 s G.2=K at k1 k2 k3 k4 mK⊢;obtain⟨l1,l2⟩:=s1a (by omega) (p44 s) (min K.1.toNat m) K.2 [] k1;have mL:K.2.2=true->(u3h (rWr s) (min K.1.toNat m) K.2 []).2.2=true:=fun q=>by rw[s09 q];exact q
 generalize hL:u3h (rWr s) (min K.1.toNat m) K.2 [] =L at l1 l2 mL⊢;obtain⟨o1,o2⟩:=j78 l1;have mO:L.2.2=true->(p5q s L.2).2.2=true:=p43;generalize hO:p5q s L.2=O at o1 o2 mO⊢;obtain⟨p1,p2⟩:=t03 o1;have mP:O.2.2=true->(u3e s O.2).2.2=true:=r8a;generalize hP:u3e s O.2=P at p1 p2 mP⊢;refine⟨p1,?_⟩;have e:u0y.wt (A.1,B.1,D.1,E.1,G.1,L.1,O.1,P.1)=0+(0+(0+(0+((Ty.sl t3d).wt G.1+((Ty.sl u2m).wt L.1+(0+P.1.size)))))):=rfl;have eG:(Ty.sl t3d).wt G.1=G.1.length+(G.1.map t3d.wt).sum:=rfl;have eL:(Ty.sl u2m).wt L.1=L.1.length+(L.1.map u2m.wt).sum:=rfl;simp only[Cc,Eh,Gq]at g2 l2;rw[e,eG,eL];by_cases q:P.2.2=true
 .have:bad P.2 20=20:=by unfold bad;rw[Al q]
  rw[this];have t1:=(t2h A.2 (k:=1) (by omega)).2;have t2:=(t2h B.2 (k:=1) (by omega)).2;have t3:=(t2h D.2 (k:=1) (by omega)).2;have t4:=(t2h E.2 (k:=1) (by omega)).2;have t5:=(t2h F.2 (k:=1) (by omega)).2;have t6:=(t2h G.2 (k:=2) (by omega)).2;have t7:=(t2h K.2 (k:=1) (by omega)).2;have t8:=(t2h L.2 (k:=3) (by omega)).2;have t9:=(t2h O.2 (k:=1) (by omega)).2;have t10:=(t2h P.2 (k:=1) (by omega)).2;omega
 .have zP:P.2.2=false:=by simpa using q
  have z:∀ {x y:Cur},(x.2=true->y.2=true)->y.2=false->x.2=false:=fun {x y} i j=>by
   cases w:x.2
   .rfl
   .rw[i w]at j;cases j
  have zO:=z mP zP;have zL:=z mO zO;have zK:=z mL zL;have zG:=z mK zK;have zF:=z mG zG;have zE:=z mF zF;have zD:=z mE zE;have zB:=z mD zD;have zA:=z mB zB;simp only[bad,zP,zO,zL,zK,zG,zF,zE,zD,zB,zA,Br,Bk] at*;omega
theorem r78(m:Nat)(s:Hs):d5s u0y.wt 20 s (u83 m s):=fun c h=>by
 obtain⟨h1,h2⟩:=o4m m s c h;refine⟨h1,?_⟩;have:bad (o0y m s c).2 20<=bad (u83 m s c).2 20:=p31 (fun q=>by unfold u83;simp only[q,Dx]) (by omega);have e1:(u83 m s c).1=(o0y m s c).1:=rfl;have e2:(u83 m s c).2.1=(o0y m s c).2.1:=rfl;rw[e1,e2];omega
theorem s2q{s:Hs}(c:Cur)(hs:s.size<=u0i):u1l (s,c)=some ((u22 s c).1,s,(u22 s c).2):=by
 rw[p6k];unfold r6t u22;simp only[p7c s c.1 hs,zOb];cases h1:c.2
 .cases h2:(u0w s c.1).2.2<;>simp
 .simp
theorem s77{s:Hs}(c:Cur)(hs:s.size<=u0i):u2o (s,c)=some ((u3e s c).1,s,(u3e s c).2):=by
 rw[p4g];unfold r3i u3e;simp only[q8v s c.1 hs,zOb];cases h1:c.2
 .cases h2:(u0p s c.1).2.2
  .simp[emp]
  .simp
 .simp[emp]
theorem gt1(n:Nat):decide ((n:Int) >1)=decide (1<n):=by simp;omega
theorem eq1(n:Nat):decide ((n:Int)=1)=decide (n=1):=by simp;omega
theorem p4n{s:Hs}(c:Cur)(hs:s.size<=u0i):u8e (s,c)=some ((p5q s c).1,s,(p5q s c).2):=by
 have hb:u0i=1099511627776:=rfl;rw[p4f];unfold r3h p5q;simp only[s5k];rw[y5f (n:=(s.size:Int) - 1) (by omega) (by omega)];cases h1:c.2
 .by_cases h2:0<=c.1/\c.1<(s.size:Int)
  .obtain⟨k,hk⟩:∃k:Nat,c.1=k:=⟨c.1.toNat,by omega⟩;have e1:r89 c.1 0 ((s.size:Int) - 1)=true:=by rw[r5s];exact Bb (by omega)
   have e2:i64.wrap (i64.wrap (c.1+1) - 1)=c.1:=by rw[y5f (n:=c.1+1) (by omega) (by omega),y5f (by omega) (by omega)];omega
   have e3:i64.wrap (c.1+1)=c.1+1:=y5f (by omega) (by omega);rw[hk]at e1 e2 e3⊢;have e4:i64.wrap (k:Int)=k:=y5f (by omega) (by omega);have e5:i64.wrap ((k:Int)+1 - 1)=k:=by rw[y5f (by omega) (by omega)];omega
   simp only[e1,e2,e3,e5,Aa,zOb,Ap,y8h (show k<s.size by omega),Ad,zTn,gt1,eq1];rw[show(s.data.toList.getD k 0).toNat=u96 s k from rfl];by_cases h3:1<u96 s k
   .simp[h3]
   .have h3' :u96 s k<=1:=by omega
    have h4:((k:Int)<(s.size:Int)):=by omega
    simp[h3,h3',show k<s.size by omega,e4,y8h (show k<s.size by omega)]
  .have e1:r89 c.1 0 ((s.size:Int) - 1)=false:=by rw[r5s];exact A7 (by omega)
   simp only[e1,Aa,zOb,Bh,Ad];rw[Al (.inr (.inl h2))]
 .simp
theorem s7p{E X R U:Type}{s:Hs}(W:X->Ht (R⊕U))(mk:Cur->Hu E->Int->X)(res:Cur->Hu E->R)(f:Cur->E×Cur)(N:Nat)
 (hf:∀c,inT s c->inT s (f c).2)
 (hend:∀c a (i:Nat),(N<=i\/c.2=true)->W (mk c a (i:Int))=some (.inl (res c a)))
 (hstep:∀c a (i:Nat),i<N->c.2=false->inT s c->a.length<=i->W (mk c a (i:Int))=W (mk (f c).2 (a++ [(f c).1]) ((i+1:Nat):Int))):
 ∀(k i:Nat) c a,i+k=N->inT s c->a.length<=i->W (mk c a (i:Int))=some (.inl (res (u3h f k c a).2 (u3h f k c a).1)):=by
 intro k
 induction k with
 |zero=>intro i c a hi hc ha;exact hend c a i (.inl (by omega))|succ k ih=>
  intro i c a hi hc ha;simp only[u3h];split
  .rename_i q;exact hend c a i (.inr q)
  .rename_i q;rw[hstep c a i (by omega) (by simpa using q) hc ha,ih (i+1) _ _ (by omega) (hf c hc) (by simp;omega)]
theorem p33{n:Int}{i:Nat}{c:Cur}(h:n.toNat<=i\/c.2=true):((bif decide ((i:Int)<n) then some (!c.2) else some false:Ht Bool))=some false:=by
 rcases h with h|h
 .rw[A7 (by omega)];rfl
 .rw[h];cases decide ((i:Int)<n)<;>rfl
theorem q6a{n:Int}{i:Nat}{c:Cur}(h:i<n.toNat)(hc:c.2=false):((bif decide ((i:Int)<n) then some (!c.2) else some false:Ht Bool))=some true:=by
 rw[Bb (by omega),hc];rfl
theorem q6b{E:Type}{w:E->Nat}{k:Int}{s:Hs}{f:Cur->E×Cur}(h:d5s w k s f):∀c,inT s c->inT s (f c).2:=fun c hc=>(h c hc).1
theorem d11{s:Hs}(hs:s.size<=u0i)(t:u0e)(ht:t.2.2.2.2.1= []){c:Cur}(hc:inT s c):
 u4d ((s,c),t,())=some ((s,(u3h (j1f s) (min (u22 s c).1.toNat 1000000000) (u22 s c).2 []).2),
  (t.1,t.2.1,t.2.2.1,t.2.2.2.1,(u3h (j1f s) (min (u22 s c).1.toNat 1000000000) (u22 s c).2 []).1,t.2.2.2.2.2),()):=by
 obtain⟨h1,h2,h3,h4⟩:=u2j hc;rw[s0w];unfold u89;simp only;rw[s2q c hs];simp only[zOb];generalize u22 s c=y at h1 h2 h3 h4⊢
 have L:=s7p (s:=s) u1f (fun(c:Cur) (a:Hu s3z) i=>((s,c),(((t.1,t.2.1,t.2.2.1,t.2.2.2.1,a,t.2.2.2.2.2):u0e),()),y.1,i))
  (fun(c:Cur) (a:Hu s3z)=>((s,c),((t.1,t.2.1,t.2.2.1,t.2.2.2.1,a,t.2.2.2.2.2):u0e),())) (j1f s) y.1.toNat (q6b (q62 s))
  (fun c a i h=>by rw[u8f];simp only[u2h];rw[p33 h];rfl)
  (fun c a i h hc2 hin ha=>by
   rw[u8f];simp only[u2h];rw[q6a h hc2];simp only[zOb,Ad];rw[p10];unfold r0u;simp only;rw[s77 c hs];simp only[zOb];rw[s77 _ hs];simp only[zOb];rw[p5p (by simp;omega),y7x (by omega)];rfl) y.1.toNat 0 y.2 [] (by omega) h1 (by simp)
 rw[show min y.1.toNat 1000000000=y.1.toNat by omega];obtain⟨t1,t2,t3,t4,t5,t6⟩:=t;simp only at ht;subst ht;have L' :u1f ((s,y.2),(((t1,t2,t3,t4, [],t6):u0e),()),y.1,0)=some (.inl ((s,(u3h (j1f s) y.1.toNat y.2 []).2),((t1,t2,t3,t4,(u3h (j1f s) y.1.toNat y.2 []).1,t6):u0e),())):=L;rw[L'];rfl
theorem d4l{s:Hs}(hs:s.size<=u0i)(t:u0e)(ht:t.2.2.2.2.2.1= []){c:Cur}(hc:inT s c):
 u4e ((s,c),(),t)=some ((s,(u3h (rWr s) (min (u22 s c).1.toNat 1000000000) (u22 s c).2 []).2),(),
  (t.1,t.2.1,t.2.2.1,t.2.2.2.1,t.2.2.2.2.1,(u3h (rWr s) (min (u22 s c).1.toNat 1000000000) (u22 s c).2 []).1,t.2.2.2.2.2.2)):=by
 obtain⟨h1,h2,h3,h4⟩:=u2j hc;rw[s0x];unfold u9a;simp only;rw[s2q c hs];simp only[zOb];generalize u22 s c=y at h1 h2 h3 h4⊢
 have L:=s7p (s:=s) u1g (fun(c:Cur) (a:Hu WrT) i=>((s,c),((),((t.1,t.2.1,t.2.2.1,t.2.2.2.1,t.2.2.2.2.1,a,t.2.2.2.2.2.2):u0e)),y.1,i))
  (fun(c:Cur) (a:Hu WrT)=>((s,c),(),((t.1,t.2.1,t.2.2.1,t.2.2.2.1,t.2.2.2.2.1,a,t.2.2.2.2.2.2):u0e))) (rWr s) y.1.toNat (q6b (p44 s))
  (fun c a i h=>by rw[u8g];simp only[u2i];rw[p33 h];rfl)
  (fun c a i h hc2 hin ha=>by
   rw[u8g];simp only[u2i];rw[q6a h hc2];simp only[zOb,Ad];rw[p11];unfold r0v;simp only;rw[s77 c hs];simp only[zOb];rw[s77 _ hs];simp only[zOb];rw[p4n _ hs];simp only[zOb];rw[p5p (by simp;omega),y7x (by omega)];rfl) y.1.toNat 0 y.2 [] (by omega) h1 (by simp)
 rw[show min y.1.toNat 1000000000=y.1.toNat by omega];obtain⟨t1,t2,t3,t4,t5,t6,t7⟩:=t;simp only at ht;subst ht;have L' :u1g ((s,y.2),((),((t1,t2,t3,t4,t5, [],t7):u0e)),y.1,0)=some (.inl ((s,(u3h (rWr s) y.1.toNat y.2 []).2),(),((t1,t2,t3,t4,t5,(u3h (rWr s) y.1.toNat y.2 []).1,t7):u0e))):=L;rw[L'];rfl
theorem j1q{s:Hs}(hs:s.size<=1048576){c:Cur}(hc:inT s c):t2s (s,c)=some ((u83 1000000000 s c).1,s,(u83 1000000000 s c).2):=by
 have hb:u0i=1099511627776:=rfl;have hs' :s.size<=u0i:=by omega
 have hw:=o4m 1000000000 s c hc;have hin:=hc;unfold inT at hin;have hwt:u0y.wt (o0y 1000000000 s c).1<=u0i:=by
  have h1:=hw.1;unfold inT at h1;have:=(t2h (o0y 1000000000 s c).2 (k:=20) (by omega)).2;have:=hw.2;omega
 have hk:=t9g _ hwt;rw[p6l];unfold r6u;unfold u83;unfold o0y at hk⊢;simp only at hk⊢;rw[s2q c hs'];simp only[zOb];have i1:=(u2j hc).1;rw[s2q _ hs'];simp only[zOb];have i2:=(u2j i1).1;rw[s2q _ hs'];simp only[zOb];have i3:=(u2j i2).1;rw[s2q _ hs'];simp only[zOb];have i4:=(u2j i3).1;rw[d11 hs' _ rfl i4];simp only[zOb];have i5:=(s1a (by omega) (q62 s) (min (u22 s (u22 s (u22 s (u22 s (u22 s c).2).2).2).2).1.toNat 1000000000) (u22 s (u22 s (u22 s (u22 s (u22 s c).2).2).2).2).2 [] (u2j i4).1).1;rw[d4l hs' _ rfl i5];simp only[zOb];rw[p4n _ hs'];simp only[zOb];rw[s77 _ hs'];simp only[zOb];rw[hk];simp only[zOb];generalize u3e s _=z;cases h:z.2.2
 .simp
 .simp
def d6e:Lim:=⟨1000000000,1000000000,1000000000,1000000000⟩
theorem d6f:d6e.ok:=⟨by decide,by decide,by decide,by decide⟩
theorem j1g{m k:Nat}{s:Hs}{c:Cur}(h:inT s c):inT s (t5r m k s c).2/\c.1+((Ty.sl u0y).wt (t5r m k s c).1:Nat)<=(t5r m k s c).2.1+20+1:=by
 obtain⟨h1,h2,h3,h4⟩:=u2j h;obtain⟨g1,g2⟩:=s1a (by omega) (r78 m s) (min (u22 s c).1.toNat k) (u22 s c).2 [] h1;refine⟨g1,?_⟩;have e:(Ty.sl u0y).wt (t5r m k s c).1=(t5r m k s c).1.length+((t5r m k s c).1.map u0y.wt).sum:=rfl;rw[e];have t1:=(t2h (u22 s c).2 (k:=1) (by omega)).2;have t2:=(t2h (u3h (u83 m s) (min (u22 s c).1.toNat k) (u22 s c).2 []).2 (k:=20) (by omega)).2;unfold t5r;simp only[Cc,Eh,Gq]at g2;omega
theorem j1e(m:Lim){s:Hs}{c:Cur}(h:inT s c):inT s (r79 m s c).2/\(d8i.wt (r79 m s c).1:Int)<=(s.size:Int)+100:=by
 unfold r79;simp only;obtain⟨a1,a2,a3,a4⟩:=u2j h;obtain⟨b1,b2,b3,b4⟩:=u2j a1;obtain⟨d1,d2,d3,d4⟩:=u2j b1;obtain⟨g1,g2⟩:=s1a (by omega) (q64 s) (min (u22 s (u22 s (u22 s c).2).2).1.toNat m.v) (u22 s (u22 s (u22 s c).2).2).2 [] d1;obtain⟨p1,p2⟩:=j1g (m:=m.t) (k:=m.p) g1;obtain⟨q1,q2⟩:=j1g (m:=m.t) (k:=m.r) p1;refine⟨q1,?_⟩;have t1:=(t2h (u3h (j1h s) (min (u22 s (u22 s (u22 s c).2).2).1.toNat m.v) (u22 s (u22 s (u22 s c).2).2).2 []).2 (k:=4) (by omega)).2;have u1:=(t2h (u22 s c).2 (k:=1) (by omega)).2;have u2:=(t2h (u22 s (u22 s c).2).2 (k:=1) (by omega)).2;have u3:=(t2h (u22 s (u22 s (u22 s c).2).2).2 (k:=1) (by omega)).2;generalize u3h (j1h s) (min (u22 s (u22 s (u22 s c).2).2).1.toNat m.v) (u22 s (u22 s (u22 s c).2).2).2 [] =vs at*;simp only[Cc,Eh,Gq]at g2;have e:=q57 (vs.1,(t5r m.t m.p s vs.2).1,(t5r m.t m.r s (t5r m.t m.p s vs.2).2).1,(u22 s c).1,(u22 s (u22 s c).2).1);simp only at e;have eV:(Ty.sl u0g).wt vs.1=vs.1.length+(vs.1.map u0g.wt).sum:=rfl
 unfold inT at q1 h;rw[e,eV];omega
theorem d2b{s:Hs}(hs:s.size<=u0i)(b:u0m)(ht:b.1= []){c:Cur}(hc:inT s c):
 u3u ((s,c),(),b)=some ((s,(u3h (j1h s) (min (u22 s c).1.toNat 1000000000) (u22 s c).2 []).2),(),
  ((u3h (j1h s) (min (u22 s c).1.toNat 1000000000) (u22 s c).2 []).1,b.2)):=by
 obtain⟨h1,h2,h3,h4⟩:=u2j hc;rw[s0g];unfold u8y;simp only;rw[s2q c hs];simp only[zOb];generalize u22 s c=y at h1 h2 h3 h4⊢
 have L:=s7p (s:=s) u1b (fun(c:Cur) (a:Hu u2u) i=>((s,c),((),((a,b.2):u0m)),y.1,i))
  (fun(c:Cur) (a:Hu u2u)=>((s,c),(),((a,b.2):u0m))) (j1h s) y.1.toNat (q6b (q64 s))
  (fun c a i h=>by rw[u71];simp only[u19];rw[p33 h];rfl)
  (fun c a i h hc2 hin ha=>by
   rw[u71];simp only[u19];rw[q6a h hc2];simp only[zOb,Ad];rw[q8i];unfold s84;simp only;rw[s77 c hs];simp only[zOb];rw[s77 _ hs];simp only[zOb];rw[p4n _ hs];simp only[zOb];rw[s2q _ hs];simp only[zOb];rw[p5p (by simp;omega),y7x (by omega)];rfl) y.1.toNat 0 y.2 [] (by omega) h1 (by simp)
 rw[show min y.1.toNat 1000000000=y.1.toNat by omega];obtain⟨b1,b2⟩:=b;simp only at ht;subst ht;have L' :u1b ((s,y.2),((),(([],b2):u0m)),y.1,0)=some (.inl ((s,(u3h (j1h s) y.1.toNat y.2 []).2),(),(((u3h (j1h s) y.1.toNat y.2 []).1,b2):u0m))):=L;rw[L'];rfl
theorem d1p{s:Hs}(hs:s.size<=1048576)(b:u0m)(ht:b.2.1= []){c:Cur}(hc:inT s c):
 u3v ((s,c),b,())=some ((s,(t5r 1000000000 1000000000 s c).2),(b.1,(t5r 1000000000 1000000000 s c).1,b.2.2),()):=by
 have hb:u0i=1099511627776:=rfl;obtain⟨h1,h2,h3,h4⟩:=u2j hc;rw[s0h];unfold u8z t5r;simp only;rw[s2q c (by omega)];simp only[zOb];generalize u22 s c=y at h1 h2 h3 h4⊢
 have L:=s7p (s:=s) u1c (fun(c:Cur) (a:Hu u0e) i=>((s,c),(((b.1,a,b.2.2):u0m),()),y.1,i))
  (fun(c:Cur) (a:Hu u0e)=>((s,c),((b.1,a,b.2.2):u0m),())) (u83 1000000000 s) y.1.toNat (q6b (r78 _ s))
  (fun c a i h=>by rw[u72];simp only[u2a];rw[p33 h];rfl)
  (fun c a i h hc2 hin ha=>by
   rw[u72];simp only[u2a];rw[q6a h hc2];simp only[zOb,Ad];rw[q8j];unfold s85;simp only;rw[j1q hs hin];simp only[zOb];rw[p5p (by simp;omega),y7x (by omega)];rfl) y.1.toNat 0 y.2 [] (by omega) h1 (by simp)
 rw[show min y.1.toNat 1000000000=y.1.toNat by omega];obtain⟨b1,b2,b3⟩:=b;simp only at ht;subst ht;have L' :u1c ((s,y.2),(((b1, [],b3):u0m),()),y.1,0)=some (.inl ((s,(u3h (u83 1000000000 s) y.1.toNat y.2 []).2),((b1,(u3h (u83 1000000000 s) y.1.toNat y.2 []).1,b3):u0m),())):=L;rw[L'];rfl
theorem j9l{s:Hs}(hs:s.size<=1048576)(b:u0m)(ht:b.2.2.1= []){c:Cur}(hc:inT s c):
 u3w ((s,c),b,())=some ((s,(t5r 1000000000 1000000000 s c).2),(b.1,b.2.1,(t5r 1000000000 1000000000 s c).1,b.2.2.2),()):=by
 have hb:u0i=1099511627776:=rfl;obtain⟨h1,h2,h3,h4⟩:=u2j hc;rw[s0i];unfold u80 t5r;simp only;rw[s2q c (by omega)];simp only[zOb];generalize u22 s c=y at h1 h2 h3 h4⊢
 have L:=s7p (s:=s) u1d (fun(c:Cur) (a:Hu u0e) i=>((s,c),(((b.1,b.2.1,a,b.2.2.2):u0m),()),y.1,i))
  (fun(c:Cur) (a:Hu u0e)=>((s,c),((b.1,b.2.1,a,b.2.2.2):u0m),())) (u83 1000000000 s) y.1.toNat (q6b (r78 _ s))
  (fun c a i h=>by rw[u73];simp only[u2b];rw[p33 h];rfl)
  (fun c a i h hc2 hin ha=>by
   rw[u73];simp only[u2b];rw[q6a h hc2];simp only[zOb,Ad];rw[q8k];unfold s86;simp only;rw[j1q hs hin];simp only[zOb];rw[p5p (by simp;omega),y7x (by omega)];rfl) y.1.toNat 0 y.2 [] (by omega) h1 (by simp)
 rw[show min y.1.toNat 1000000000=y.1.toNat by omega];obtain⟨b1,b2,b3,b4⟩:=b;simp only at ht;subst ht;have L' :u1d ((s,y.2),(((b1,b2, [],b4):u0m),()),y.1,0)=some (.inl ((s,(u3h (u83 1000000000 s) y.1.toNat y.2 []).2),((b1,b2,(u3h (u83 1000000000 s) y.1.toNat y.2 []).1,b4):u0m),())):=L;rw[L'];rfl
theorem d0y{s:Hs}(hs:s.size<=1048576){c:Cur}(hc:inT s c):s46 (s,c)=some ((s0c d6e s c).1,s,(s0c d6e s c).2):=by
 have hb:u0i=1099511627776:=rfl;have hs' :s.size<=u0i:=by omega
 have hw:=j1e d6e (s:=s) hc;have hk:=t3h (r79 d6e s c).1 (by have:=hw.2;omega);rw[p4e];unfold r3g;unfold s0c;unfold r79 at hk⊢;simp only at hk⊢;rw[s2q c hs'];simp only[zOb];have i1:=(u2j hc).1;rw[s2q _ hs'];simp only[zOb];have i2:=(u2j i1).1;rw[d2b hs' _ rfl i2];simp only[zOb];have i3:=(s1a (by omega) (q64 s) (min (u22 s (u22 s (u22 s c).2).2).1.toNat 1000000000) (u22 s (u22 s (u22 s c).2).2).2 [] (u2j i2).1).1;rw[d1p hs _ rfl i3];simp only[zOb];have i4:=(j1g (m:=1000000000) (k:=1000000000) i3).1;rw[j9l hs _ rfl i4];simp only[zOb];rw[show d6e.v=1000000000 from rfl,show d6e.t=1000000000 from rfl,show d6e.p=1000000000 from rfl,show d6e.r=1000000000 from rfl]at hk⊢;rw[hk];simp only[zOb];generalize t5r 1000000000 1000000000 s (t5r 1000000000 1000000000 s _).2=z;cases h:z.2.2
 .simp
 .simp
theorem s4t{s:Hs}(c:Cur)(hs:s.size<=u0i):u3n (s,c)=some ((u22 s c).1,s,(u22 s c).2):=by
 rw[j0z];unfold p3v u22;simp only[p7d s c.1 hs,zOb];cases h1:c.2
 .cases h2:(u0w s c.1).2.2<;>simp
 .simp
theorem s78{s:Hs}(c:Cur)(hs:s.size<=u0i):u2g (s,c)=some ((u3e s c).1,s,(u3e s c).2):=by
 rw[p13];unfold r0x u3e;simp only[q8w s c.1 hs,zOb];cases h1:c.2
 .cases h2:(u0p s c.1).2.2
  .simp[emp]
  .simp
 .simp[emp]
theorem p4o{s:Hs}{c:Cur}(hc:inT s c)(hs:s.size<=u0i):u9q (s,c)=some ((p5q s c).1,s,(p5q s c).2):=by
 have hb:u0i=1099511627776:=rfl;unfold inT at hc;obtain⟨k,hk⟩:∃k:Nat,c.1=k:=⟨c.1.toNat,by omega⟩;rw[p6v];unfold r64 p5q;simp only[hk];cases h1:c.2
 .by_cases h2:k<s.size
  .have e1:decide ((k:Int)>=(s.size:Int))=false:=A7 (by omega);have e3:i64.wrap ((k:Int)+1)=(k:Int)+1:=y5f (by omega) (by omega);have e5:i64.wrap ((k:Int)+1 - 1)=k:=by rw[y5f (by omega) (by omega)];omega
   rw[e1,e3,e5];simp only[Aa,zOb,y8h h2,Ad,zTn,gt1,eq1];rw[show(s.data.toList.getD k 0).toNat=u96 s k from rfl];by_cases h3:1<u96 s k
   .simp[h3]
   .have h3' :u96 s k<=1:=by omega
    simp[h3,h3',h2]
  .have e1:decide ((k:Int)>=(s.size:Int))=true:=Bb (by omega);rw[e1];simp only[Aa,zOb,Ad];rw[Al (.inr (.inl (by omega)))]
 .simp
theorem o1w{n k:Int}{i:Nat}{c:Cur}(h:min n.toNat k.toNat<=i\/c.2=true):((bif decide ((i:Int)<n) then(bif decide ((i:Int)<k) then some (!c.2) else some false) else some false:Ht Bool))=some false:=by
 rcases h with h|h
 .by_cases q:(i:Int)<n
  .rw[Bb q,A7 (show ¬(i:Int)<k by omega)];rfl
  .rw[A7 q];rfl
 .rw[h];cases decide ((i:Int)<n)<;>cases decide ((i:Int)<k)<;>rfl
theorem p58{n k:Int}{i:Nat}{c:Cur}(h:i<min n.toNat k.toNat)(hc:c.2=false):((bif decide ((i:Int)<n) then(bif decide ((i:Int)<k) then some (!c.2) else some false) else some false:Ht Bool))=some true:=by
 rw[Bb (show(i:Int)<n by omega),Bb (show(i:Int)<k by omega),hc];rfl
theorem d12{s:Hs}(hs:s.size<=u0i)(z t:u0e)(n:Int){c:Cur}(hc:inT s c)(ht:t.2.2.2.2.1= []):
 t4z (z,(s,c),t,n,0)=some (.inl (z,(s,(u3h (j1f s) (min n.toNat 10) c []).2),(t.1,t.2.1,t.2.2.1,t.2.2.2.1,(u3h (j1f s) (min n.toNat 10) c []).1,t.2.2.2.2.2))):=by
 have L:=s7p (s:=s) t4z (fun(c:Cur) (a:Hu s3z) i=>(z,(s,c),((t.1,t.2.1,t.2.2.1,t.2.2.2.1,a,t.2.2.2.2.2):u0e),n,i))
  (fun(c:Cur) (a:Hu s3z)=>(z,(s,c),((t.1,t.2.1,t.2.2.1,t.2.2.2.1,a,t.2.2.2.2.2):u0e))) (j1f s) (min n.toNat 10) (q6b (q62 s))
  (fun c a i h=>by rw[q3q];simp only[s10];rw[o1w (k:=10) h];rfl)
  (fun c a i h hc2 hin ha=>by
   rw[q3q];simp only[s10];rw[p58 (k:=10) h hc2];simp only[zOb,Ad];rw[s78 c hs];simp only[zOb];rw[s78 _ hs];simp only[zOb];rw[p5p (by simp;omega),y7x (by omega)];rfl) (min n.toNat 10) 0 c [] (by omega) hc (by simp)
 obtain⟨t1,t2,t3,t4,t5,t6⟩:=t;simp only at ht;subst ht;exact L
theorem d4m{s:Hs}(hs:s.size<=u0i)(z t:u0e)(n:Int){c:Cur}(hc:inT s c)(ht:t.2.2.2.2.2.1= []):
 t2b (z,(s,c),t,n,0)=some (.inl (z,(s,(u3h (rWr s) (min n.toNat 10) c []).2),(t.1,t.2.1,t.2.2.1,t.2.2.2.1,t.2.2.2.2.1,(u3h (rWr s) (min n.toNat 10) c []).1,t.2.2.2.2.2.2))):=by
 have L:=s7p (s:=s) t2b (fun(c:Cur) (a:Hu WrT) i=>(z,(s,c),((t.1,t.2.1,t.2.2.1,t.2.2.2.1,t.2.2.2.2.1,a,t.2.2.2.2.2.2):u0e),n,i))
  (fun(c:Cur) (a:Hu WrT)=>(z,(s,c),((t.1,t.2.1,t.2.2.1,t.2.2.2.1,t.2.2.2.2.1,a,t.2.2.2.2.2.2):u0e))) (rWr s) (min n.toNat 10) (q6b (p44 s))
  (fun c a i h=>by rw[r8z];simp only[t87];rw[o1w (k:=10) h];rfl)
  (fun c a i h hc2 hin ha=>by
   rw[r8z];simp only[t87];rw[p58 (k:=10) h hc2];simp only[zOb,Ad];rw[s78 c hs];simp only[zOb];rw[s78 _ hs];simp only[zOb];rw[p4o (t03 (t03 hin).1).1 hs];simp only[zOb];rw[p5p (by simp;omega),y7x (by omega)];rfl) (min n.toNat 10) 0 c [] (by omega) hc (by simp)
 obtain⟨t1,t2,t3,t4,t5,t6,t7⟩:=t;simp only at ht;subst ht;exact L
theorem j8e{s:Hs}(hs:s.size<=1048576){a:Int}(hc:inT s (a,false)):
 s66 (s,a)=some (if(u83 10 s (a,false)).2.2=true then(u3i,0,false) else((u83 10 s (a,false)).1,(u83 10 s (a,false)).2.1,true)):=by
 have hb:u0i=1099511627776:=rfl;have hs' :s.size<=u0i:=by omega
 have hw:=o4m 10 s (a,false) hc;have hin:=hc;unfold inT at hin;simp only at hin;have hwt:u0y.wt (o0y 10 s (a,false)).1<=u0i:=by
  have h1:=hw.1;unfold inT at h1;have:=(t2h (o0y 10 s (a,false)).2 (k:=20) (by omega)).2;have:=hw.2;simp only at this;omega
 have hk:=s3k _ hwt;rw[o6l];unfold q9u;unfold u83;unfold o0y at hk⊢;simp only at hk⊢;rw[s4t _ hs'];simp only[zOb];have i1:=(u2j hc).1;rw[s4t _ hs'];simp only[zOb];have i2:=(u2j i1).1;rw[s4t _ hs'];simp only[zOb];have i3:=(u2j i2).1;rw[s4t _ hs'];simp only[zOb];have i4:=(u2j i3).1;rw[s4t _ hs'];simp only[zOb];have i5:=(u2j i4).1;rw[d12 hs' _ _ _ i5 rfl];simp only[zOb];have i6:=(s1a (by omega) (q62 s) (min (u22 s (u22 s (u22 s (u22 s (u22 s (a,false)).2).2).2).2).1.toNat 10) (u22 s (u22 s (u22 s (u22 s (u22 s (a,false)).2).2).2).2).2 [] i5).1;rw[s4t _ hs'];simp only[zOb];have i7:=(u2j i6).1;rw[d4m hs' _ _ _ i7 rfl];simp only[zOb];rw[p4o (s1a (by omega) (p44 s) _ _ [] i7).1 hs'];simp only[zOb];rw[s78 _ hs'];simp only[zOb];rw[hk];simp only[zOb];generalize u3e s _=z;generalize u93 _=o;cases h:z.2.2<;>cases o<;>simp[u3i,emp]
theorem j5a{s:Hs}(hs:s.size<=1048576)(m:Nat)(hm:m<=1000){c:Cur}(hc:inT s c):
 ∃(l:Hu u0e) (c' :Cur),t7c ((s,c),(m:Int))=some (l,s,c')/\inT s c' /\c'.2=(t5r 10 (m+1) s c).2.2/\c.1+((Ty.sl u0y).wt l:Nat)<=c'.1+22/\(c'.2=false->(l,c')=t5r 10 (m+1) s c):=by
 have hb:u0i=1099511627776:=rfl;obtain⟨h1,h2,h3,h4⟩:=u2j hc;rw[p4m];unfold r3n t5r;simp only;rw[s4t c (by omega)];simp only[zOb];generalize u22 s c=y at h1 h2 h3 h4⊢
 have key:∀(k i:Nat) (d:Cur) (a:Hu u0e),i+k=min y.1.toNat (m+1)->inT s d->a.length<=i->y.2.1+((a.length+(a.map u0y.wt).sum:Nat):Int)<=d.1+bad d 20->
  ∃(r:((Hs×Cur)×Hu u0e)⊕((Hs×Cur)×Hu u0e)) (l:Hu u0e) (c' :Cur),u8x ((s,d),(m:Int),a,y.1,(i:Int))=some r/\(r= .inl ((s,c'),l)\/r= .inr ((s,c'),l))/\inT s c' /\c'.2=(u3h (u83 10 s) k d a).2.2/\
   y.2.1+((l.length+(l.map u0y.wt).sum:Nat):Int)<=c'.1+bad c' 20/\(c'.2=false->(l,c')=u3h (u83 10 s) k d a):=by
  intro k
  induction k with
  |zero=>
   intro i d a hi hd ha hw;refine⟨_,a,d,?_, .inl rfl,hd,rfl,hw,fun _=>rfl⟩;rw[t12];simp only[u6e];have:(bif decide ((i:Int)<y.1) then(bif decide ((i:Int)<=(m:Int)) then some (!d.2) else some false) else some false:Ht Bool)=some false:=by
    by_cases q:(i:Int)<y.1
    .rw[Bb q,A7 (show ¬(i:Int)<=m by omega)];rfl
    .rw[A7 q];rfl
   rw[this];rfl
  |succ k ih=>
   intro i d a hi hd ha hw;by_cases q:d.2=true
   .refine⟨_,a,d,?_, .inl rfl,hd,by rw[s09 q],hw,fun z=>by rw[q] at z;cases z⟩;rw[t12];simp only[u6e];have:(bif decide ((i:Int)<y.1) then(bif decide ((i:Int)<=(m:Int)) then some (!d.2) else some false) else some false:Ht Bool)=some false:=by
     rw[q];cases decide ((i:Int)<y.1)<;>cases decide ((i:Int)<=(m:Int))<;>rfl
    rw[this];rfl
   .have q' :d.2=false:=by simpa using q
    have ed:d=(d.1,false):=by rw[←q']
    have hx:=j8e hs (a:=d.1) (by rw[←ed];exact hd);rw[←ed]at hx;have he:=r78 10 s d hd;have hbd:bad d 20=0:=by unfold bad;rw[Ao q]
    have c1:(bif decide ((i:Int)<y.1) then(bif decide ((i:Int)<=(m:Int)) then some (!d.2) else some false) else some false:Ht Bool)=some true:=by
     rw[Bb (show(i:Int)<y.1 by omega),Bb (show(i:Int)<=m by omega),q'];rfl
    simp only[u3h];rw[Ao q];cases z:(u83 10 s d).2.2
    .rw[Ao (by rw[z];simp)]at hx;have hbz:bad (u83 10 s d).2 20=0:=by unfold bad;rw[Ao (by rw[z];simp)]
     obtain⟨r,l,c',e1,e2,e3,e4,e5,e6⟩:=ih (i+1) (u83 10 s d).2 (a++ [(u83 10 s d).1]) (by omega) he.1 (by simp;omega) (by
      have:=he.2;rw[hbd]at hw;rw[hbz]at this⊢;simp only[Ba,Aw,Dh,C8,Eh,Fn,Ge,Gq];omega)
     refine⟨r,l,c',?_,e2,e3,e4,e5,e6⟩;rw[←e1,t12];simp only[u6e];rw[c1];simp only[zOb,Ad];rw[hx];simp only[zOb,Ap,Aa];rw[p5p (by simp;omega),y7x (by omega),q'];have:(u83 10 s d).2=((u83 10 s d).2.1,false):=by rw[←z]
     rw[this]
    .rw[Al z]at hx;refine⟨_,a,(d.1,true),?_, .inr rfl,hd,by rw[s09 z,z],?_,fun w=>by cases w⟩
     .rw[t12];simp only[u6e];rw[c1];simp only[zOb,Ad];rw[hx];rfl
     .rw[hbd]at hw;have:bad ((d.1,true):Cur) 20=20:=rfl;rw[this];simp only;omega
 have hb0:0<=bad y.2 20:=(t2h _ (by omega)).1;obtain⟨r,l,c',e1,e2,e3,e4,e5,e6⟩:=key (min y.1.toNat (m+1)) 0 y.2 [] (by omega) h1 (by simp) (by simp only[Cc,Eh,Gq];omega);have e1' :u8x ((s,y.2),(m:Int), [],y.1,0)=some r:=e1;refine⟨l,c',?_,e3,e4,?_,e6⟩
 .rw[e1'];rcases e2 with e2|e2<;>rw[e2] <;>rfl
 .have e:(Ty.sl u0y).wt l=l.length+(l.map u0y.wt).sum:=rfl;rw[e];have t1:=(t2h y.2 (k:=1) (by omega)).2;have t2:=(t2h c' (k:=20) (by omega)).2;omega
def d3l:Lim:=⟨10,130,13,4⟩
theorem d6g:d3l.ok:=⟨by decide,by decide,by decide,by decide⟩
theorem d2c{s:Hs}(hs:s.size<=u0i)(z b:u0m)(n:Int){c:Cur}(hc:inT s c)(ht:b.1= []):
 t2a (z,(s,c),b,n,0)=some (.inl (z,(s,(u3h (j1h s) (min n.toNat 130) c []).2),((u3h (j1h s) (min n.toNat 130) c []).1,b.2))):=by
 have L:=s7p (s:=s) t2a (fun(c:Cur) (a:Hu u2u) i=>(z,(s,c),((a,b.2):u0m),n,i))
  (fun(c:Cur) (a:Hu u2u)=>(z,(s,c),((a,b.2):u0m))) (j1h s) (min n.toNat 130) (q6b (q64 s))
  (fun c a i h=>by rw[r8y];simp only[t86];rw[o1w (k:=130) h];rfl)
  (fun c a i h hc2 hin ha=>by
   rw[r8y];simp only[t86];rw[p58 (k:=130) h hc2];simp only[zOb,Ad];rw[s78 c hs];simp only[zOb];rw[s78 _ hs];simp only[zOb];rw[p4o (t03 (t03 hin).1).1 hs];simp only[zOb];rw[s4t _ hs];simp only[zOb];rw[p5p (by simp;omega),y7x (by omega)];rfl) (min n.toNat 130) 0 c [] (by omega) hc (by simp)
 obtain⟨b1,b2⟩:=b;simp only at ht;subst ht;exact L
theorem d0z{s:Hs}(hs:s.size<=1048576){a:Int}(hc:inT s (a,false)):
 r2d (s,a)=some (if(s0c d3l s (a,false)).2.2=true then(u26,0,false) else((s0c d3l s (a,false)).1,(s0c d3l s (a,false)).2.1,true)):=by
 have hb:u0i=1099511627776:=rfl;have hs' :s.size<=u0i:=by omega
 have hw:=j1e d3l (s:=s) hc;have hk:=s5u (r79 d3l s (a,false)).1 (by have:=hw.2;omega);rw[o3f];unfold q5p;unfold s0c;unfold r79 at hk⊢;simp only at hk⊢;rw[s4t _ hs'];simp only[zOb];have i1:=(u2j hc).1;rw[s4t _ hs'];simp only[zOb];have i2:=(u2j i1).1;rw[s4t _ hs'];simp only[zOb];have i3:=(u2j i2).1;rw[d2c hs' _ _ _ i3 rfl];simp only[zOb];have i4f:=s1a (by omega) (q64 s) (min (u22 s (u22 s (u22 s (a,false)).2).2).1.toNat 130) (u22 s (u22 s (u22 s (a,false)).2).2).2 [] i3;rw[show d3l.v=130 from rfl,show d3l.t=10 from rfl,show d3l.p=12+1 from rfl,show d3l.r=3+1 from rfl]at hk⊢;generalize hvs:u3h (j1h s) (min (u22 s (u22 s (u22 s (a,false)).2).2).1.toNat 130) (u22 s (u22 s (u22 s (a,false)).2).2).2 [] =vs at hk i4f⊢;obtain⟨i4,i4w⟩:=i4f;obtain⟨l1,d1,e1,e2,e3,e4,e5⟩:=j5a hs 12 (by omega) i4;obtain⟨l2,d2,f1,f2,f3,f4,f5⟩:=j5a hs 3 (by omega) e2;rw[show((12:Nat):Int)=12 from rfl]at e1;rw[show((3:Nat):Int)=3 from rfl]at f1
 rw[e1];simp only[zOb];rw[f1];simp only[zOb];cases z:d2.2
 .have z1:d1.2=false:=by
   cases w:d1.2
   .rfl
   .have:(t5r 10 (3+1) s d1).2.2=true:=q63 w;rw[←f3,z]at this;cases this
  have g1:=e5 z1;have g2:=f5 z;rw[←g1];rw[←g1]at hk;simp only at hk⊢;rw[←g2];rw[←g2]at hk;simp only at hk⊢;rw[hk];simp only[zOb,z,Aa,Ci];generalize u95 _=o;cases o<;>simp[u26]
 .have zz:(t5r 10 (3+1) s (t5r 10 (12+1) s vs.2).2).2.2=true:=by
   cases w:d1.2
   .have g1:=e5 w;rw[←g1];show(t5r 10 (3+1) s d1).2.2=true;rw[←f3];exact z
   .exact q63 (by rw[←e3];exact w)
  rw[zz];simp[u26]
theorem o9j(t:Hs)(ht:t.size<=u0i):r1r t=some (match t98 t with
 |some s=>(s,true)|none=>(emp,false)):=by
 have hb:u0i=1099511627776:=rfl;rw[o2r];unfold q44 t98;by_cases h4:t.size<4
 .rw[Bb (by omega),Ao (by omega)];rfl
 .rw[A7 (by omega),y5f (n:=(t.size:Int) - 4) (by omega) (by omega)];have c1:(decide ((0:Int)<=0)&&decide ((0:Int)<=(t.size:Int) - 4)&&decide ((t.size:Int) - 4<=(t.size:Int)))=true:=by simp;omega
  have e1:((t.size:Int) - 4).toNat=t.size - 4:=by omega
  rw[c1,e1,show((0:Int)).toNat=0 from rfl];have hz:(t.extract 0 (t.size - 4)).size=t.size - 4:=by simp
  simp only[Aa,Ad];rw[r0p _ (by rw[hz];omega)];simp only[zOb];unfold o4u;rw[hz];by_cases h5:t.size - 4<=20000
  .rw[Al h5];simp only[Ap,Aa,zOb];by_cases h6:q7e (t.extract 0 (t.size - 4))=t
   .rw[Al ⟨by omega,h5,h6⟩,y7r.mpr h6];rfl
   .rw[Ao (fun q=>h6 q.2.2),o4z.mpr h6];rfl
  .rw[Ao h5,Ao (fun q=>h5 q.2.1)];rfl
theorem j41{t:Hs}(h:4<=t.size):q7e (t.extract 0 (t.size - 4))=t↔t.extract (t.size - 4) t.size=c0r (d6t (t.extract 0 (t.size - 4))):=by
 have e:t.extract 0 (t.size - 4)++t.extract (t.size - 4) t.size=t:=by
  rw[ByteArray.extract_append_extract,Nat.zero_min,Nat.max_eq_right (by omega)];exact Fu
 unfold q7e;constructor
 .intro q;have:=e.trans q.symm;exact ByteArray.append_right_inj (t.extract 0 (t.size - 4)) |>.mp this
 .intro q;rw[←q,e]
theorem j8v(t:Hs)(ht:t.size<=1099511627776):r4k t=some (d6t t):=by
 rw[p8e];unfold q5u;rw[p7f _ _ ht];rfl
theorem d0d(x:Int):s69 x=some (c0r x):=by
 rw[p0v];rfl
theorem o9k(t:Hs)(ht:t.size<=u0i):r2f t=some (match t98 t with
 |some s=>(s,true)|none=>(emp,false)):=by
 have hb:u0i=1099511627776:=rfl;rw[o3k];unfold q5v t98;rw[y5f (n:=(t.size:Int) - 4) (by omega) (by omega)];by_cases h4:t.size<4
 .rw[Bb (show(t.size:Int) - 4<0 by omega),Ao (by omega)];rfl
 .rw[A7 (show ¬(t.size:Int) - 4<0 by omega)];have c1:(decide ((0:Int)<=0)&&decide ((0:Int)<=(t.size:Int) - 4)&&decide ((t.size:Int) - 4<=(t.size:Int)))=true:=by simp;omega
  have c2:(decide ((0:Int)<=(t.size:Int) - 4)&&decide ((t.size:Int) - 4<=(t.size:Int))&&decide ((t.size:Int)<=(t.size:Int)))=true:=by simp;omega
  have e1:((t.size:Int) - 4).toNat=t.size - 4:=by omega
  rw[c1,c2,e1,show((0:Int)).toNat=0 from rfl,zTn];have hz:(t.extract 0 (t.size - 4)).size=t.size - 4:=by simp
  simp only[Aa,Ad];by_cases h5:t.size - 4<=20000
  .rw[A7 (show ¬(t.size:Int) - 4 >20000 by omega),j8v _ (by rw[hz];omega)];simp only[zOb,Aa];rw[d0d];simp only[zOb];by_cases h6:q7e (t.extract 0 (t.size - 4))=t
   .rw[Al ⟨by omega,h5,h6⟩,(j41 (by omega)).mp h6,y6w];rfl
   .rw[Ao (fun q=>h6 q.2.2),o4z.mpr (mt (j41 (t:=t) (by omega)).mpr h6)];rfl
  .rw[Bb (show(t.size:Int) - 4 >20000 by omega),Ao (fun q=>h5 q.2.1)];rfl
def noR:r21:=(0,u3i,emp,false,u26)
def s1b(t:Hs):r21×Bool:=match u6f t with
 |some r=>(r,true)|none=>(noR,false)
theorem d32{t:Hs}{r:r21}(h:u0u r=(t,true)):u6f t=some r:=by
 have hr:u88 r=true:=by
  cases q:u88 r with
  |true=>rfl|false=>
   unfold u0u at h;rw[Ao (by simp[q])]at h;simp at h
 have hR:=d48.mp hr;rw[t8e hR]at h;rw[←(Dv h).1];exact q66 hR
theorem d31{t s:Hs}{r:r21}(hu:t98 t=some s)(h:u6f t=some r):RecR r/\s=q7a r/\u0u r=(t,true):=by
 obtain⟨h1,h2⟩:=p46 h;have hs:=r0h h1;have:=p5d (t:=q7a r) (by omega);rw[←h2,hu]at this;exact⟨h1,Ds this,by rw[t8e h1,←h2]⟩
theorem q71{t s:Hs}{r' :r21}{b:Bool}(hu:t98 t=some s)(hr:∀r,RecR r->s=q7a r->r' =r/\b=false):
 (((bif b then some true else(bif (!(u0u r').2) then some true else some (!z7q (u0u r').1 t))):Ht Bool).bind fun j=>bif j then some (noR,false) else some (r',true))=some (s1b t):=by
 unfold s1b;cases h:u6f t with
 |some r=>
  obtain⟨h1,h2,h3⟩:=d31 hu h;obtain⟨e1,e2⟩:=hr r h1 h2;subst e1;rw[e2,h3];simp only[Aa,Ap,y6w,zOb]
 |none=>
  cases b
  .cases h2:(u0u r').2
   .rfl
   .have:z7q (u0u r').1 t=false:=by
     rw[o4z];intro e;have:=d32 (t:=t) (r:=r') (by rw[←e,←h2]);rw[h]at this;cases this
    rw[this];rfl
  .rfl
theorem j7m(s:Hs):((s.data.toList.getD 0 0).toNat:Int)=(u96 s 0:Int):=rfl
theorem j27(s:Hs)(i:Nat):u96 s i<256:=by unfold u96;exact Fw _
theorem p5e{t s:Hs}(h:t98 t=some s):s.size<=20000:=by
 unfold t98 at h;split at h
 .rename_i q;have:=Ds h;rw[←this];simp;omega
 .cases h
theorem c5l(k:Nat):decide ((k:Int)=3)=decide (k=3):=by simp;omega
theorem c5m(k:Nat):decide ((k:Int)=4)=decide (k=4):=by simp;omega
theorem p5m:u0y.wt u3i=0:=rfl
theorem p5l:d8i.wt u26=0:=rfl
theorem j7z(m:Nat){s:Hs}(hs:s.size<=20000)(h1:1<=s.size):u0y.wt (u83 m s (1,false)).1<=30000:=by
 have h:=r78 m s (1,false) ⟨by simp,by simp;omega⟩;have h2:=h.1;unfold inT at h2;have:=(t2h (u83 m s (1,false)).2 (k:=20) (by omega)).2;have:=h.2;simp only at this;omega
theorem j4n(m:Lim){s:Hs}(hs:s.size<=20000)(h1:1<=s.size):d8i.wt (s0c m s (1,false)).1<=30000:=by
 have h:=j1e m (s:=s) (c:=(1,false)) ⟨by simp,by simp;omega⟩;have e:(s0c m s (1,false)).1=(r79 m s (1,false)).1:=rfl;rw[e];have:=h.2;omega
theorem o1e(t:Hs)(ht:t.size<=u0i):s5z t=some (s1b t):=by
 have hb:u0i=1099511627776:=rfl;rw[p6c];unfold r6l;rw[o9j t ht];simp only[zOb];cases hu:t98 t with
 |none=>
  unfold s1b u6f;rw[hu];rfl
 |some s=>
  have hs:=p5e hu;simp only[t9w];by_cases h0:s.size=0
  .unfold s1b u6f;rw[hu];simp only;rw[Al h0,Bb h0];rfl
  .have hin:inT s (1,false):=⟨by simp,by simp;omega⟩;rw[A7 h0];simp only[Ap,Aa,zOb];rw[show y4v (0:Int) s.size=true from y8h (i:=0) (by omega)];simp only[Ad,show((0:Int)).toNat=0 from rfl,j7m];rw[y5f (n:=(u96 s 0:Int)) (by omega) (by have:=j27 s 0;omega),c5l,c5m];by_cases h3:u96 s 0=3
   .rw[Bb h3,s77 _ (by omega)];simp only[Ad,zOb];rw[p4n _ (by omega)];simp only[zOb];have hf:=(t03 hin).2;have hg:=(t03 hin).1;unfold inT at hg;have:=(t2h (u3e s (1,false)).2 (k:=1) (by omega)).2;simp only at hf;have hk:=t7h ((u96 s 0:Int),u3i,(u3e s (1,false)).1,(p5q s (u3e s (1,false)).2).1,u26) (by rw[q7b];simp only[p5m,p5l];omega);rw[show((0:Int),(0:Int),(0:Int),(0:Int),([] :Hu s3z),([] :Hu WrT),false,(⟨#[]⟩:Hs))=u3i from rfl];rw[show(([] :Hu u2u),([] :Hu u0e),([] :Hu u0e),(0:Int),(0:Int))=u26 from rfl];rw[hk];simp only[zOb];refine q71 hu (b:=(p5q s (u3e s (1,false)).2).2.2) fun r h1 h2=> ?_
    have:=s58 h1;rw[←h2]at this;unfold t7d at this;rw[Al h3]at this;rw[h3];exact⟨(Dv this).1,(Dv this).2⟩
   .rw[A7 h3];by_cases h4:u96 s 0=4
    .rw[Bb h4,d0y (by omega) hin];simp only[Ad,Aa,zOb];have hk:=t7h ((u96 s 0:Int),u3i,emp,false,(s0c d6e s (1,false)).1) (by rw[q7b];simp only[p5m];have:=j4n d6e hs (by omega);simp only[emp,ByteArray.size];simp;omega);rw[show((0:Int),(0:Int),(0:Int),(0:Int),([] :Hu s3z),([] :Hu WrT),false,(⟨#[]⟩:Hs))=u3i from rfl];rw[show(([] :Hu u2u),([] :Hu u0e),([] :Hu u0e),(0:Int),(0:Int))=u26 from rfl];rw[show((⟨#[]⟩:Hs))=emp from rfl];rw[hk];simp only[zOb];refine q71 hu (b:=(s0c d6e s (1,false)).2.2) fun r h1 h2=> ?_
     have:=s58 h1;rw[←h2]at this;unfold t7d at this;rw[Ao h3,Al h4]at this;have hl:=o8f j6q d6f (Dv this).2;rw[h4,hl];exact⟨(Dv this).1,(Dv this).2⟩
    .rw[A7 h4,j1q (by omega) hin];simp only[Ad,Aa,zOb];have hk:=t7h ((u96 s 0:Int),(u83 1000000000 s (1,false)).1,emp,false,u26) (by rw[q7b];simp only[p5l];have:=j7z 1000000000 hs (by omega);simp only[emp,ByteArray.size];simp;omega);rw[show((0:Int),(0:Int),(0:Int),(0:Int),([] :Hu s3z),([] :Hu WrT),false,(⟨#[]⟩:Hs))=u3i from rfl];rw[show(([] :Hu u2u),([] :Hu u0e),([] :Hu u0e),(0:Int),(0:Int))=u26 from rfl];rw[show((⟨#[]⟩:Hs))=emp from rfl];rw[hk];simp only[zOb];refine q71 hu (b:=(u83 1000000000 s (1,false)).2.2) fun r h1 h2=> ?_
     have:=s58 h1;rw[←h2]at this;unfold t7d at this;rw[Ao h3,Ao h4]at this;have hl:=o4h (m:=9) (m' :=1000000000) (by omega) (by omega) (Dv this).2;rw[hl];exact⟨(Dv this).1,(Dv this).2⟩
theorem o1f(t:Hs)(ht:t.size<=u0i):s54 t=some (s1b t):=by
 have hb:u0i=1099511627776:=rfl;rw[p6o];unfold r6x;rw[o9k t ht];simp only[zOb];cases hu:t98 t with
 |none=>
  unfold s1b u6f;rw[hu];rfl
 |some s=>
  have hs:=p5e hu;simp only[t9w];by_cases h0:s.size=0
  .unfold s1b u6f;rw[hu];simp only;rw[Al h0,Bb h0];rfl
  .have hin:inT s (1,false):=⟨by simp,by simp;omega⟩;rw[A7 h0];simp only[Ap,Aa,zOb];rw[show y4v (0:Int) s.size=true from y8h (i:=0) (by omega)];simp only[Ad,show((0:Int)).toNat=0 from rfl,j7m];rw[y5f (n:=(u96 s 0:Int)) (by omega) (by have:=j27 s 0;omega),c5l,c5m];by_cases h3:u96 s 0=3
   .rw[Bb h3,s78 _ (by omega)];simp only[Ad,zOb];rw[p4o (t03 hin).1 (by omega)];simp only[zOb];have hf:=(t03 hin).2;have hg:=(t03 hin).1;unfold inT at hg;have:=(t2h (u3e s (1,false)).2 (k:=1) (by omega)).2;simp only at hf;have hk:=t7i ((u96 s 0:Int),u3i,(u3e s (1,false)).1,(p5q s (u3e s (1,false)).2).1,u26) (by rw[q7b];simp only[p5m,p5l];omega);rw[show((0:Int),(0:Int),(0:Int),(0:Int),([] :Hu s3z),([] :Hu WrT),false,(⟨#[]⟩:Hs))=u3i from rfl];rw[show(([] :Hu u2u),([] :Hu u0e),([] :Hu u0e),(0:Int),(0:Int))=u26 from rfl];rw[hk];simp only[zOb];refine q71 hu (b:=false) fun r h1 h2=> ?_
    have:=s58 h1;rw[←h2]at this;unfold t7d at this;rw[Al h3]at this;rw[h3];exact⟨(Dv this).1,rfl⟩
   .rw[A7 h3];by_cases h4:u96 s 0=4
    .rw[Bb h4,d0z (by omega) hin];simp only[Ad,Aa,zOb];generalize hy:(if(s0c d3l s (1,false)).2.2=true then(u26,(0:Int),false) else((s0c d3l s (1,false)).1,(s0c d3l s (1,false)).2.1,true))=y;have hyw:d8i.wt y.1<=30000:=by
      rw[←hy];split
      .rw[p5l];omega
      .exact j4n d3l hs (by omega)
     have hk:=t7i ((u96 s 0:Int),u3i,emp,false,y.1) (by rw[q7b];simp only[p5m];simp only[emp,ByteArray.size];simp;omega);rw[show((0:Int),(0:Int),(0:Int),(0:Int),([] :Hu s3z),([] :Hu WrT),false,(⟨#[]⟩:Hs))=u3i from rfl];rw[show(([] :Hu u2u),([] :Hu u0e),([] :Hu u0e),(0:Int),(0:Int))=u26 from rfl];rw[show((⟨#[]⟩:Hs))=emp from rfl];rw[hk];simp only[zOb];refine q71 hu (b:=false) fun r h1 h2=> ?_
     have:=s58 h1;rw[←h2]at this;unfold t7d at this;rw[Ao h3,Al h4]at this;have hl:=o8f j6q d6g (Dv this).2;rw[hl,Ao (by rw[(Dv this).2];simp)]at hy;rw[h4,←hy];exact⟨(Dv this).1,rfl⟩
    .rw[A7 h4,j8e (by omega) hin];simp only[Ad,Aa,zOb];generalize hy:(if(u83 10 s (1,false)).2.2=true then(u3i,(0:Int),false) else((u83 10 s (1,false)).1,(u83 10 s (1,false)).2.1,true))=y;have hyw:u0y.wt y.1<=30000:=by
      rw[←hy];split
      .rw[p5m];omega
      .exact j7z 10 hs (by omega)
     have hk:=t7i ((u96 s 0:Int),y.1,emp,false,u26) (by rw[q7b];simp only[p5l];simp only[emp,ByteArray.size];simp;omega);rw[show((0:Int),(0:Int),(0:Int),(0:Int),([] :Hu s3z),([] :Hu WrT),false,(⟨#[]⟩:Hs))=u3i from rfl];rw[show(([] :Hu u2u),([] :Hu u0e),([] :Hu u0e),(0:Int),(0:Int))=u26 from rfl];rw[show((⟨#[]⟩:Hs))=emp from rfl];rw[hk];simp only[zOb];refine q71 hu (b:=false) fun r h1 h2=> ?_
     have:=s58 h1;rw[←h2]at this;unfold t7d at this;rw[Ao h3,Ao h4]at this;have hl:=o4h (m:=9) (m' :=10) (by omega) (by omega) (Dv this).2;rw[hl,Ao (by rw[(Dv this).2];simp)]at hy;rw[←hy];exact⟨(Dv this).1,rfl⟩
theorem j5t(l:Hu u0e)(c:Hs)(hl:l.length<=8388608):u2s (l,c)=some (l.filter fun x=> !z7q x.2.2.2.2.2.2.2 c):=by
 have hq:∀x∈l,t0g (x,c)=some (z7q x.2.2.2.2.2.2.2 c):=fun x _=>by rw[p9e];rfl
 have L:=Q.first (T:=u0y) (c:=Hs) (W:=u1p) (q:=t0g) (p:=fun x:u0e=>z7q x.2.2.2.2.2.2.2 c) (fun x=>t26 x) l c (by omega) hq;rw[t34];unfold u5z;simp only[t5c,u6k,L,zOb];by_cases hk:u0o (fun x:u0e=>z7q x.2.2.2.2.2.2.2 c) l<l.length
 .obtain⟨a,e1,e2,e3⟩:=Q.delete (T:=u0y) (c:=Hs) (W:=u1h) (q:=t0g) (p:=fun x:u0e=>z7q x.2.2.2.2.2.2.2 c) (fun x=>t2w x) l c (by omega) hq hk;have hn:=t5h (fun x:u0e=> !z7q x.2.2.2.2.2.2.2 c) l;obtain⟨n,hne⟩:∃n,n=(l.filter fun x:u0e=> !z7q x.2.2.2.2.2.2.2 c).length:=⟨_,rfl⟩;rw[←hne]at e1 e3 hn;have c1:decide (((u0o (fun x:u0e=>z7q x.2.2.2.2.2.2.2 c) l:Nat):Int)= -1)=false:=by simp
  have c2:decide ((0:Int)<=(n:Int))=true:=by simp
  have c3:decide ((n:Int)<=(a.length:Int))=true:=by simp;omega
  have c4:decide ((a.length:Int)<=(a.length:Int))=true:=by simp
  have hw:=y7x (i:=u0o (fun x:u0e=>z7q x.2.2.2.2.2.2.2 c) l) (by omega);simp only[Al hk,zOb,c1,Aa,hw,e1,c2,c3,c4,Dt,Ad,zTn,Ae,Bv];have c5:decide ((n:Int)<=((a.take n++List.replicate (a.length - n) u0y.zero++a.drop (n+(a.length - n))).length:Int))=true:=by simp;omega
  have c6:(a.take n++List.replicate (a.length - n) u0y.zero++a.drop (n+(a.length - n))).take (n - (0:Int).toNat)=l.filter fun x:u0e=> !z7q x.2.2.2.2.2.2.2 c:=by
   rw[Bi,Ho,Nat.sub_zero,q70 a n (by omega),e3]
  simp only[c5,Dt,Ad,c6]
 .have hall:(l.filter fun x:u0e=> !z7q x.2.2.2.2.2.2.2 c)=l:=by
   rw[F9];intro x hx;obtain⟨i,hi,rfl⟩:=B7 hx;rw[u9n (p:=fun x:u0e=>z7q x.2.2.2.2.2.2.2 c) hi (by omega)];rfl
  simp only[Ao hk,zOb,Ae,Ad,hall]
theorem o5c(l:Hu u0e)(c:Int)(hl:l.length<=8388608):u2t (l,c)=some (l.filter fun x=> !decide (x.1=c)):=by
 have hq:∀x∈l,t0j (x,c)=some (decide (x.1=c)):=fun x _=>by rw[p9z];rfl
 have L:=Q.first (T:=u0y) (c:=Int) (W:=u1s) (q:=t0j) (p:=fun x:u0e=>decide (x.1=c)) (fun x=>t29 x) l c (by omega) hq;rw[t36];unfold u52;simp only[t5f,u6n,L,zOb];by_cases hk:u0o (fun x:u0e=>decide (x.1=c)) l<l.length
 .obtain⟨a,e1,e2,e3⟩:=Q.delete (T:=u0y) (c:=Int) (W:=u1j) (q:=t0j) (p:=fun x:u0e=>decide (x.1=c)) (fun x=>t2y x) l c (by omega) hq hk;have hn:=t5h (fun x:u0e=> !decide (x.1=c)) l;obtain⟨n,hne⟩:∃n,n=(l.filter fun x:u0e=> !decide (x.1=c)).length:=⟨_,rfl⟩;rw[←hne]at e1 e3 hn;have c1:decide (((u0o (fun x:u0e=>decide (x.1=c)) l:Nat):Int)= -1)=false:=by simp
  have c2:decide ((0:Int)<=(n:Int))=true:=by simp
  have c3:decide ((n:Int)<=(a.length:Int))=true:=by simp;omega
  have c4:decide ((a.length:Int)<=(a.length:Int))=true:=by simp
  have hw:=y7x (i:=u0o (fun x:u0e=>decide (x.1=c)) l) (by omega);simp only[Al hk,zOb,c1,Aa,hw,e1,c2,c3,c4,Dt,Ad,zTn,Ae,Bv];have c5:decide ((n:Int)<=((a.take n++List.replicate (a.length - n) u0y.zero++a.drop (n+(a.length - n))).length:Int))=true:=by simp;omega
  have c6:(a.take n++List.replicate (a.length - n) u0y.zero++a.drop (n+(a.length - n))).take (n - (0:Int).toNat)=l.filter fun x:u0e=> !decide (x.1=c):=by
   rw[Bi,Ho,Nat.sub_zero,q70 a n (by omega),e3]
  simp only[c5,Dt,Ad,c6]
 .have hall:(l.filter fun x:u0e=> !decide (x.1=c))=l:=by
   rw[F9];intro x hx;obtain⟨i,hi,rfl⟩:=B7 hx;rw[u9n (p:=fun x:u0e=>decide (x.1=c)) hi (by omega)];rfl
  simp only[Ao hk,zOb,Ae,Ad,hall]
theorem p68(b:u0m)(n:Hs)(hb:fewB b):s0y (b,n)=some (s3a b n):=by
 rw[o5q];unfold q81;simp only;rw[s5v b hb];simp only[zOb];rw[j5t _ _ (by have:=hb.2.2.1;omega)];rfl
theorem p69(b:u0m)(n:Hs)(hb:fewB b):s64 (b,n)=some (s3a b n):=by
 obtain⟨hb1,hb2,hb3⟩:=hb
 have L:=s80 t4x b.2.2.1 (fun(a:Hu u0e) i=>(n,b,u26,((b.1,b.2.1,a,b.2.2.2):u0m),i)) (fun x:u0e=> !z7q x.2.2.2.2.2.2.2 n) (fun x=>x) (fun a=> .inl (u26,((b.1,b.2.1,a,b.2.2.2):u0m))) (by have:=hb3.1;omega)
  (fun a _=>by rw[q3m];simp only[s1w,u0b,Am,Ah,Aa])
  (fun i hi a ha=>by
   have hm:=Ag hi;have:=hb3.1;rw[q3m];simp only[s1w,u0b,hi,Ae,Ad,y8h hi,zTn,y9a (t:=u0y) hi,y7x (show i<4611686018427387904 by omega)];rw[t4j _ (hb3.2 _ hm)];simp only[zOb];rw[p5p (by simp;omega)])
 rw[Er]at L;rw[o6f];unfold q9o;simp only;rw[s5w b ⟨hb1,hb2,hb3⟩];simp only[zOb];have L' :t4x (n,b,(([], [], [],0,0):u0m),((b.1,b.2.1, [],b.2.2.2):u0m),0)=_:=L;rw[L'];rfl
theorem d1d{n i:Int}:y8x n (i+1)=u59 n i:=by
 unfold y8x u59;by_cases h:i<n
 .rw[Al h,Ao (by omega)]
 .rw[Ao h,Al (by omega)]
theorem d1o(p:u0e->Bool)(l:Hu u0e):∀(a:Hu u0e×Hu u0e),l.foldl (fun a x=>if p x=true then(a.1++ [x],a.2) else(a.1,a.2++ [x])) a=(a.1++l.filter p,a.2++l.filter fun x=> !p x):=by
 induction l with
 |nil=>intro a;simp|cons x l ih=>
  intro a;rw[Bs,ih];cases h:p x<;>simp[h]
theorem j71(p q:u0e->Bool)(l:Hu u0e)(d:u0e)(hl:l.length<=4194304):(l.filter p).length+ [d].length<=1099511627776/\(l.filter p++ [d]).length+(l.filter q).length<=1099511627776/\(l.filter p++ [d]).length<=8000000:=by
 have f1:=t5h p l;have f2:=t5h q l;rw[Ba,Aw];omega
theorem o8m(b z:u0m)(t d:u0e)(n:Hs)(hb:fewB b):u76 (n,t,z,b,d, [], [],(),(b.2.2.1.length:Int),0)=
 some (.inl (t,z,b,d,b.2.2.1.filter (fun x=>y3i x.2.2.2.2.2.2.2 n),b.2.2.1.filter fun x=> !y3i x.2.2.2.2.2.2.2 n)):=by
 have hl:=hb.2.2.1
 have L:=t14 u76 b.2.2.1 (fun(a:Hu u0e×Hu u0e) i=>(n,t,z,b,d,a.1,a.2,(),(b.2.2.1.length:Int),i)) (fun a x=>if y3i x.2.2.2.2.2.2.2 n=true then(a.1++ [x],a.2) else(a.1,a.2++ [x]))
  (fun a=> .inl (t,z,b,d,a.1,a.2)) (fun i a=>a.1.length<=i/\a.2.length<=i)
  (fun a _=>by rw[r4u];simp only[t6d,u0b,Am,Ah,Aa])
  (fun i hi a ha=>by
   rw[r4u];simp only[t6d,u0b,hi,Ae,Ad,y8h hi,zTn,y9a (t:=u0y) hi,y7x (show i<4611686018427387904 by omega)];cases y3i (b.2.2.1[i]).2.2.2.2.2.2.2 n
   .simp only[Br,Bk,Aa];refine⟨⟨by omega,by simp;omega⟩,?_⟩;rw[p5p (by simp;omega)]
   .simp only[Bl,Ad];refine⟨⟨by simp;omega,by omega⟩,?_⟩;rw[p5p (by simp;omega)]) ([], []) ⟨by simp,by simp⟩
 rw[d1o (fun x=>y3i x.2.2.2.2.2.2.2 n)]at L;simpa using L
theorem q8r(b:u0m)(t:u0e)(n:Hs)(hb:fewB b)(ht:s8c t)(hi:j95 t.1):u8o (b,t,n)=some (u21 b t n):=by
 have hl:=hb.2.2.1;rw[p9f];unfold q0q;simp only;rw[s5v b hb];simp only[zOb];rw[s7i t ht];simp only[zOb];rw[p5z t b.2.1 ht hb.2.1];simp only[zOb];rw[o8m _ _ _ _ _ hb,o8m _ _ _ _ _ hb];simp only[zOb,s26 hi,d1d];have pl:=fun d=>j71 (fun x:u0e=>y3i x.2.2.2.2.2.2.2 n) (fun x:u0e=> !y3i x.2.2.2.2.2.2.2 n) b.2.2.1 d hl
 rw[p5p (pl _).1,p5p (pl _).2.1,p5p (pl _).1,p5p (pl _).2.1];unfold u21 u70;cases t.2.2.2.2.2.2.1<;>rfl
theorem o4q(b z:u0m)(t d:u0e)(n:Hs)(hb:fewB b):u8a (n,b,t,z,((b.1,b.2.1, [],b.2.2.2):u0m),d,0)=
 some (.inl (n,b,t,z,((b.1,b.2.1,b.2.2.1.filter (fun x=>y3i x.2.2.2.2.2.2.2 n),b.2.2.2):u0m),d)):=by
 have hl:=hb.2.2.1
 have L:=s80 u8a b.2.2.1 (fun(a:Hu u0e) i=>(n,b,t,z,((b.1,b.2.1,a,b.2.2.2):u0m),d,i)) (fun x:u0e=>y3i x.2.2.2.2.2.2.2 n) (fun x=>x) (fun a=> .inl (n,b,t,z,((b.1,b.2.1,a,b.2.2.2):u0m),d)) (by omega)
  (fun a _=>by rw[r44];simp only[t6n,u0b,Am,Ah,Aa])
  (fun i hi a ha=>by
   have hm:=Ag hi;rw[r44];simp only[t6n,u0b,hi,Ae,Ad,y8h hi,zTn,y9a (t:=u0y) hi,y7x (show i<4611686018427387904 by omega)];rw[t4j _ (hb.2.2.2 _ hm)];simp only[zOb];rw[p5p (by simp;omega)])
 rw[Er]at L;exact L
theorem p8s(b z:u0m)(t:u0e)(n:Hs)(hb:fewB b)(pre:Hu u0e)(hp:pre.length<=8000000):u7g (n,b,t,z,((b.1,b.2.1,pre,b.2.2.2):u0m),0)=
 some (.inl (t,z,((b.1,b.2.1,pre++b.2.2.1.filter (fun x=> !y3i x.2.2.2.2.2.2.2 n),b.2.2.2):u0m))):=by
 have hl:=hb.2.2.1
 have L:=s80 u7g b.2.2.1 (fun(a:Hu u0e) i=>(n,b,t,z,((b.1,b.2.1,pre++a,b.2.2.2):u0m),i)) (fun x:u0e=> !y3i x.2.2.2.2.2.2.2 n) (fun x=>x) (fun a=> .inl (t,z,((b.1,b.2.1,pre++a,b.2.2.2):u0m))) (by omega)
  (fun a _=>by rw[r2u];simp only[t3o,u0b,Am,Ah,Aa])
  (fun i hi a ha=>by
   have hm:=Ag hi;rw[r2u];simp only[t3o,u0b,hi,Ae,Ad,y8h hi,zTn,y9a (t:=u0y) hi,y7x (show i<4611686018427387904 by omega)];rw[t4j _ (hb.2.2.2 _ hm)];simp only[zOb];rw[p5p (by simp;omega),Bi])
 rw[Er,Bw]at L;exact L
theorem q8s(b:u0m)(t:u0e)(n:Hs)(hb:fewB b)(ht:s8c t)(hi:j95 t.1):u8r (b,t,n)=some (u21 b t n):=by
 have hl:=hb.2.2.1;have pl:=fun d=>j71 (fun x:u0e=>y3i x.2.2.2.2.2.2.2 n) (fun x:u0e=> !y3i x.2.2.2.2.2.2.2 n) b.2.2.1 d hl
 rw[p99];unfold q1i;simp only;rw[s5w b hb];simp only[zOb];rw[t4j t ht];simp only[zOb];rw[p50 t b.2.1 ht hb.2.1];simp only[zOb];rw[o4q _ _ _ _ _ hb,o4q _ _ _ _ _ hb];simp only[zOb];rw[p5p (pl _).1,p5p (pl _).1,p8s _ _ _ _ hb _ (pl _).2.2,p8s _ _ _ _ hb _ (pl _).2.2];simp only[zOb,s26 hi]
 have key:∀(o:Bool),(bif decide (t.1>=b.2.2.2.2) then some ((b.1,b.2.1,(b.2.2.1.filter fun x=>y3i x.2.2.2.2.2.2.2 n)++ [((t.1,(2:Int),t.2.2.1,t.2.2.2.1,t.2.2.2.2.1,t.2.2.2.2.2.1,o,n):u0e)] ++(b.2.2.1.filter fun x=> !y3i x.2.2.2.2.2.2.2 n),b.2.2.2.1,t.1+1):u0m)
  else some (b.1,b.2.1,(b.2.2.1.filter fun x=>y3i x.2.2.2.2.2.2.2 n)++ [((t.1,(2:Int),t.2.2.1,t.2.2.2.1,t.2.2.2.2.1,t.2.2.2.2.2.1,o,n):u0e)] ++(b.2.2.1.filter fun x=> !y3i x.2.2.2.2.2.2.2 n),b.2.2.2))=
  some (b.1,b.2.1,(b.2.2.1.filter fun x=>y3i x.2.2.2.2.2.2.2 n)++ [((t.1,(2:Int),t.2.2.1,t.2.2.2.1,t.2.2.2.2.1,t.2.2.2.2.2.1,o,n):u0e)] ++(b.2.2.1.filter fun x=> !y3i x.2.2.2.2.2.2.2 n),b.2.2.2.1,u59 b.2.2.2.2 t.1):=fun o=>by
  unfold u59;by_cases h:t.1<b.2.2.2.2
  .rw[A7 (by omega),Al h];rfl
  .rw[Bb (by omega),Ao h];rfl
 unfold u21 u70;cases t.2.2.2.2.2.2.1
 .exact key _
 .exact key _
structure tinyT(t:u0e):Prop where
 rl:t.2.2.2.2.1.length<=100
 rs:∀r∈t.2.2.2.2.1,r.1.size<=100/\r.2.size<=100
 wl:t.2.2.2.2.2.1.length<=100
 ws:∀w∈t.2.2.2.2.2.1,w.1.size<=100/\w.2.1.size<=100
 nm:t.2.2.2.2.2.2.2.size<=100
structure tinyB(b:u0m):Prop where
 vl:b.1.length<=10000
 vs:∀v∈b.1,v.1.size<=100/\v.2.1.size<=100
 pl:b.2.1.length<=1000
 ps:∀t∈b.2.1,tinyT t
 rl:b.2.2.1.length<=1000
 rs:∀t∈b.2.2.1,tinyT t
theorem r8b{α:Type}{f:α->Nat}{k:Nat}:∀ {l:Hu α},(∀x∈l,f x<=k)->(l.map f).sum<=l.length*k
 |[],_=>by simp
 |x::l,h=>by
  rw[C8,Ge,Bc,C7];have h1:=h x (by simp);have h2:=r8b (l:=l) (fun y hy=>h y (by simp[hy]));omega
theorem tinyT.wt{t:u0e}(h:tinyT t):u0y.wt t<=50000:=by
 have e1:(Ty.sl t3d).wt t.2.2.2.2.1=t.2.2.2.2.1.length+(t.2.2.2.2.1.map t3d.wt).sum:=rfl;have e2:(Ty.sl u2m).wt t.2.2.2.2.2.1=t.2.2.2.2.2.1.length+(t.2.2.2.2.2.1.map u2m.wt).sum:=rfl;have s1:(t.2.2.2.2.1.map t3d.wt).sum<=t.2.2.2.2.1.length*200:=r8b fun r hr=>by
  have:=h.rs r hr;have e:t3d.wt r=r.1.size+r.2.size:=rfl;omega
 have s2:(t.2.2.2.2.2.1.map u2m.wt).sum<=t.2.2.2.2.2.1.length*200:=r8b fun w hw=>by
  have:=h.ws w hw;have e:u2m.wt w=w.1.size+(w.2.1.size+0):=rfl;omega
 have:=h.rl;have:=h.wl;have:=h.nm;rw[j49,e1,e2];omega
theorem tinyT.few{t:u0e}(h:tinyT t):s8c t:=⟨by have:=h.rl;omega,by have:=h.wl;omega⟩
theorem TxnR.tiny{t:u0e}(h:TxnR t):tinyT t:=by
 obtain⟨z1,z2,z3,z4,z5⟩:=h.small;exact⟨by have:=h.rlen;omega,fun r hr=>by have:=z1 r hr;omega,by omega,fun w hw=>by have:=z2 w hw;omega,by omega⟩
theorem tinyT.like{t u:u0e}(h:tinyT t)(e1:u.2.2.2.2.1=t.2.2.2.2.1)(e2:u.2.2.2.2.2.1=t.2.2.2.2.2.1)(e3:u.2.2.2.2.2.2.2.size<=100):tinyT u:=
 ⟨by rw[e1];exact h.rl,by rw[e1];exact h.rs,by rw[e2];exact h.wl,by rw[e2];exact h.ws,e3⟩
theorem o00{l:Hu u0e}(hl:l.length<=1000)(h:∀t∈l,tinyT t):(Ty.sl u0y).wt l<=60000000:=by
 have e:(Ty.sl u0y).wt l=l.length+(l.map u0y.wt).sum:=rfl;have s:(l.map u0y.wt).sum<=l.length*50000:=r8b fun t ht=>(h t ht).wt
 rw[e];omega
theorem tinyB.wt{b:u0m}(h:tinyB b):d8i.wt b<=200000000:=by
 have e:(Ty.sl u0g).wt b.1=b.1.length+(b.1.map u0g.wt).sum:=rfl;have s:(b.1.map u0g.wt).sum<=b.1.length*200:=r8b fun v hv=>by
  have:=h.vs v hv;have e:u0g.wt v=v.1.size+(v.2.1.size+(0+0)):=rfl;omega
 have h1:=o00 h.pl h.ps;have h2:=o00 h.rl h.rs;have:=h.vl;rw[q57,e];omega
theorem r2l{l:Hu u0e}(hl:l.length<=1000)(h:∀t∈l,tinyT t):q4a l:=⟨by omega,fun t ht=>(h t ht).few⟩
theorem tinyB.few{b:u0m}(h:tinyB b):fewB b:=⟨by have:=h.vl;omega,r2l h.pl h.ps,r2l h.rl h.rs⟩
theorem BaseR.tiny{b:u0m}(h:BaseR b):tinyB b:=by
 obtain⟨w1,w2,w3⟩:=d2q.mp h.vs;exact⟨by omega,fun v hv=>by have:=r2n (w1 v hv);omega,by have:=h.plen;omega,fun t ht=>(h.past t ht).1.tiny,by have:=h.rlen;omega,fun t ht=>(h.ready t ht).1.tiny⟩
theorem r2k{b:u0m}(h:tinyB b)(o:Hu u0e):tinyB (tidied b o):=
 ⟨A9 (j64 _ _) h.vl,fun v hv=>h.vs v ((t8h _ _).subset hv),A9 (t5h _ _) h.pl,fun t ht=>h.ps t (A6.mp ht).1,h.rl,h.rs⟩
theorem r4p{b:u0m}{t:u0e}(h:BaseR b)(ht:tinyT t):tinyB (u1u b t):=by
 obtain⟨w1,w2,w3⟩:=d2q.mp h.vs;have hb:=h.tiny;refine⟨?_,fun v hv=> ?_,?_,fun x hx=> ?_,?_,fun x hx=> ?_⟩
 .show(s3y b.1 t.2.2.2.2.2.1 (b.2.2.2.1+1)).length<=10000;rw[o4k];have:=ht.wl;have e:(t.2.2.2.2.2.1:Hu u2m.den).length=t.2.2.2.2.2.1.length:=rfl;omega
 .rcases(r1j _ _ _).mp hv with q|⟨w,hw,rfl⟩
  .exact hb.vs v q
  .exact ht.ws w hw
 .show(b.2.1++ [s9u b t]).length<=1000;have:=h.plen;rw[Ba,Aw];omega
 .rcases Ay.mp hx with q|q
  .exact hb.ps x q
  .rw[Ax.mp q];exact ht.like rfl rfl (Cn _)
 .show((b.2.2.1.filter fun x=> !decide (x.1=t.1)).map (o0v (s9u b t))).length<=1000;rw[Da];exact A9 (t5h _ _) hb.rl
 .obtain⟨y,hy,rfl⟩:=Bx.mp hx;have:=hb.rs y (A6.mp hy).1;exact this.like rfl rfl this.nm
theorem q78{b:u0m}{t:u0e}{n:Hs}(h:BaseR b)(ht:tinyT t)(hn:n.size<=100):tinyB (u21 b t n):=by
 have hb:=h.tiny;refine⟨hb.vl,hb.vs,hb.pl,hb.ps,?_,fun x hx=> ?_⟩
 .show((b.2.2.1.filter fun x=>y3i x.2.2.2.2.2.2.2 n)++ [u70 b t n] ++(b.2.2.1.filter fun x=> !y3i x.2.2.2.2.2.2.2 n)).length<=1000;have f1:=t5h (fun x:u0e=>y3i x.2.2.2.2.2.2.2 n) b.2.2.1;have f2:=t5h (fun x:u0e=> !y3i x.2.2.2.2.2.2.2 n) b.2.2.1;have:=h.rlen;rw[Ba,Ba,Aw];omega
 .rcases Ay.mp hx with q|q
  .rcases Ay.mp q with q|q
   .exact hb.rs x (A6.mp q).1
   .rw[Ax.mp q];exact ht.like rfl rfl hn
  .exact hb.rs x (A6.mp q).1
theorem q72{b:u0m}{n:Hs}(hb:tinyB b):tinyB (s3a b n):=
 ⟨hb.vl,hb.vs,hb.pl,hb.ps,A9 (t5h _ _) hb.rl,fun x hx=>hb.rs x (A6.mp hx).1⟩
structure tinyR(r:r21):Prop where
 t:tinyT r.2.1
 n:r.2.2.1.size<=100
 b:tinyB r.2.2.2.2
theorem tinyR.wt{r:r21}(h:tinyR r):c2f.wt r<=549755813888:=by
 have:=h.t.wt;have:=h.n;have:=h.b.wt;rw[q7b];omega
theorem s59:tinyT u3i:=⟨by decide,fun r hr=>(by cases hr),by decide,fun r hr=>(by cases hr),by decide⟩
theorem t5z:tinyB u26:=⟨by decide,fun r hr=>(by cases hr),by decide,fun r hr=>(by cases hr),by decide,fun r hr=>(by cases hr)⟩
theorem d3q:tinyR noR:=⟨s59,by decide,t5z⟩
theorem RecR.tiny{r:r21}(h:RecR r):tinyR r:=by
 cases h with
 |thr t h hs=>exact⟨h.tiny,Cn 100,t5z⟩|rdy t h hs=>exact⟨h.tiny,Cn 100,t5z⟩|fin n y h=>exact⟨s59,by have:=u2z h;show n.size<=100;omega,t5z⟩|bas b h=>exact⟨s59,Cn 100,h.tiny⟩
def s9z(b:u0m)(r:r21):u0m×Bool:=match t1m b r with
 |some x=>(x,true)|none=>(b,false)
theorem o4g{n:Int}(h:0<=n/\n<=9999):j95 n:=⟨by omega,by omega⟩
theorem r5t{n:Int}(h:1<=n/\n<=9999):j95 n:=⟨by omega,by omega⟩
theorem q76{b x:u0m}{r:r21}(hb:u95 b=true/\u88 r=true){o:Bool}(hx:u3r b r=if o=true then some x else none):
 (((bif (!o) then some true else some (!u95 (tidied x []))):Ht Bool).bind fun j=>bif j then some (b,false) else some (tidied x [],true))=some (s9z b r):=by
 unfold s9z t1m;rw[Al hb,hx];cases o
 .rfl
 .simp only[Bl,Ap,Aa,zOb];cases u95 (tidied x [])<;>rfl
theorem j50(b:u0m)(r:r21)(hb:tinyB b)(hr:tinyR r):r9z (b,r)=some (s9z b r):=by
 have hq:u0i=1099511627776:=rfl;rw[o98];unfold p23;simp only;rw[t3h b (by have:=hb.wt;omega),p2p r hr.wt,s5v b hb.few];simp only[zOb];cases h1:u95 b
 .unfold s9z t1m;rw[Ao (by simp[h1])];rfl
 .cases h2:u88 r
  .unfold s9z t1m;rw[Ao (by simp[h2])];rfl
  .have hB:=o72.mp h1;have hR:=d48.mp h2;have hbr:u95 b=true/\u88 r=true:=⟨h1,h2⟩;simp only[Ap,Aa,zOb];have thr:∀t:u0e,TxnR t->u9e (b,t)=some (u1u b t)/\u2l (u1u b t, [])=some (tidied (u1u b t) [])/\u3m (tidied (u1u b t) [])=some (u95 (tidied (u1u b t) [])):=fun t ht=>by
    have h3:=r4p hB ht.tiny;refine⟨?_,t07 _ _ h3.few (by simp),t3h _ (by have:=(r2k h3 []).wt;omega)⟩;rw[p7g b t hb.few ht.tiny.few,p2i (o4g hB.cs) (r5t ht.id)]
   cases hR with
   |thr t h hs=>
    obtain⟨t1,t2,t3⟩:=thr t h;simp only[Ae,Ad];rw[t1];simp only[zOb];rw[t2];simp only[zOb];rw[t3];simp only[zOb];rw[s26 (o4g hB.cs)];refine q76 (o:=decide (t.2.2.2.1=b.2.2.2.1+1)) hbr ?_;unfold u3r;simp only[Bl,Ar]
   |rdy t h hs=>
    have hn:=u2z (h.name hs);have h3:=q78 (n:=t.2.2.2.2.2.2.2) hB h.tiny (by omega);simp only[show decide ((2:Int)=1)=false from rfl,Ae,Ad,Aa];rw[s3h b _ (by have:=hB.rlen;omega)];simp only[zOb];rw[q8r b t _ hb.few h.tiny.few (r5t h.id)];simp only[zOb];rw[t07 _ _ h3.few (by simp),];simp only[zOb];rw[t3h _ (by have:=(r2k h3 []).wt;omega)];simp only[zOb];have e:(bif decide ((b.2.2.1.length:Int)<3) then some (decide (u0k b t.2.2.2.2.2.2.2<0)) else some false:Ht Bool)=some (decide (b.2.2.1.length<3/\u0k b t.2.2.2.2.2.2.2<0)):=by
     by_cases q:b.2.2.1.length<3
     .rw[Bb (show(b.2.2.1.length:Int)<3 by omega)];simp[q]
     .rw[A7 (show ¬(b.2.2.1.length:Int)<3 by omega)];simp[q]
    rw[e];simp only[zOb];refine q76 (o:=decide (b.2.2.1.length<3/\u0k b t.2.2.2.2.2.2.2<0)) hbr ?_;unfold u3r;simp only[show((2:Int)=1)=False by simp,Bk,Bl,Ar]
   |fin n y h=>
    simp only[show decide ((3:Int)=1)=false from rfl,show decide ((3:Int)=2)=false from rfl,Ae,Ad,Aa];rw[s3h b _ (by have:=hB.rlen;omega)];simp only[zOb];have h4:=q72 (b:=b) (n:=n) hb;have giv:s0y (b,n)=some (s3a b n):=p68 b n hb.few;have raw:∀x,(0<=u0k b n->y=true->x=u1u b (rdL u0y b.2.2.1 (u0k b n).toNat))->(y=false->x=s3a b n)->(0<=u0k b n\/True)->u3r b (3,u3i,n,y,u26)=if decide (u0k b n>=0)=true then some x else none:=fun x hx hx2 _=>by
     unfold u3r;simp only[show((3:Int)=1)=False by simp,show((3:Int)=2)=False by simp,Bk,Bl];by_cases q:u0k b n<0
     .rw[Al q,A7 (show ¬u0k b n>=0 by omega)];rfl
     .rw[Ao q,Bb (show u0k b n>=0 by omega)];cases hy:y
      .rw[hx2 hy];rfl
      .rw[hx (by omega) hy];rfl
    by_cases q:0<=u0k b n
    .rw[Bb (show u0k b n>=0 from q)];cases hy:y
     .simp only[Ad,zOb,Aa];rw[giv];simp only[zOb];rw[t07 _ _ h4.few (by simp)];simp only[zOb];rw[t3h _ (by have:=(r2k h4 []).wt;omega)];simp only[zOb];have:=raw (s3a b n) (fun _ k=>by rw[hy]at k;cases k) (fun _=>rfl) (.inr trivial);rw[hy]at this hbr;rw[Bb (show u0k b n>=0 from q)]at this;exact q76 (o:=true) hbr this
     .simp only[Ad,zOb,Aa];have hk:(u0k b n).toNat<b.2.2.1.length:=by
       unfold u0k at q⊢;split
       .rename_i z;rw[zTn];exact z
       .rename_i z;rw[Ao z]at q;omega
      obtain⟨k,hkk⟩:∃k:Nat,u0k b n=k:=⟨(u0k b n).toNat,by omega⟩;have hg:y4v (u0k b n) b.2.2.1.length=true:=by rw[hkk];exact y8h (by rw[hkk]at hk;simpa using hk)
      rw[hg];simp only[Ad];have hT:TxnR (rdL u0y b.2.2.1 (u0k b n).toNat):=by
       rw[y9a hk];exact(hB.ready _ (Ag hk)).1
      obtain⟨t1,t2,t3⟩:=thr _ hT;rw[t1];simp only[zOb];rw[t2];simp only[zOb];rw[t3];simp only[zOb];have:=raw (u1u b (rdL u0y b.2.2.1 (u0k b n).toNat)) (fun _ _=>rfl) (fun k=>by rw[hy]at k;cases k) (.inr trivial);rw[hy]at this hbr;rw[Bb (show u0k b n>=0 from q)]at this;exact q76 (o:=true) hbr this
    .rw[A7 (show ¬u0k b n>=0 from q)];simp only[Aa,zOb];rw[giv];simp only[zOb];rw[t07 _ _ h4.few (by simp)];simp only[zOb];have:=raw (s3a b n) (fun k=>absurd k q) (fun _=>rfl) (.inr trivial);rw[A7 (show ¬u0k b n>=0 from q)]at this;exact q76 (o:=false) hbr this
   |bas c h=>
    simp only[show decide ((4:Int)=1)=false from rfl,show decide ((4:Int)=2)=false from rfl,show decide ((4:Int)=3)=false from rfl,Aa];rw[s5v c h.tiny.few];simp only[zOb];rw[t07 _ _ h.tiny.few (by simp)];simp only[zOb];rw[t3h _ (by have:=(r2k h.tiny []).wt;omega)];simp only[zOb];exact q76 (o:=true) hbr (by unfold u3r;simp)
theorem d5z:∃t,s7a ()=some t/\t.size=64/\s9b t 0=0:=by
 have hset:∀i,(List.replicate 64 (0:Int)).set i 0=List.replicate 64 0:=fun i=>by
  apply Gw (by simp);intro j h1 h2;rw[List.getElem_set,List.getElem_replicate];split
  .rfl
  .rfl
 have key:∀(r i:Nat),i+r=64->u8k ((64:Int),0,List.replicate 64 0,(i:Int))=some (.inl (List.replicate 64 0)):=by
  intro r
  induction r with
  |zero=>
   intro i hi;have:i=64:=by omega
   subst this;rw[s25];rfl
  |succ r ih=>
   intro i hi;have hlt:decide ((i:Int)<64)=true:=by simp;omega
   have hg:y4v (i:Int) (List.replicate 64 (0:Int)).length=true:=y8h (by simp;omega);rw[s25];simp only[s17,hlt,Ad,hg,hset];rw[y7x (by omega)];exact ih (i+1) (by omega)
 have e1:u8k ((64:Int),0,List.replicate 64 0,0)=_:=key 64 0 rfl;refine⟨y7s (List.replicate 64 0),?_,by rw[u6c];simp,by unfold s9b;rw[r2j];rfl⟩;rw[p0w];unfold r5i;rw[p0u];unfold r5h;have hc:(decide ((0:Int)<=64)&&decide ((64:Int)<=1099511627776))=true:=rfl;have hr:List.replicate ((64:Int)).toNat (Ty.int .u8).zero=List.replicate 64 (0:Int):=rfl;simp only[hc,Ad,hr,e1,zOb]
theorem o09:∃d,s95 ()=some d/\u2k d=true/\u0d d= [] :=by
 obtain⟨z,hz,hz1,hz2⟩:=d5z;have key:∀(r i:Nat),i+r=97->u8i ((97:Int),([], []),(List.replicate i z, []),(i:Int))=some (.inl (([], []),(List.replicate 97 z, []))):=by
  intro r
  induction r with
  |zero=>
   intro i hi;have:i=97:=by omega
   subst this;rw[s24];rfl
  |succ r ih=>
   intro i hi;have hlt:decide ((i:Int)<97)=true:=by simp;omega
   have hc:Nat.ble ((List.replicate i z).length+([z] :Hu Hs).length) z7z=true:=u0v (by simp;omega);rw[s24];simp only[s1v,hlt,Ad,hz,zOb,hc];rw[y7x (by omega)];have e:List.replicate i z++ [z] =List.replicate (i+1) z:=by rw[List.replicate_succ']
   rw[e];exact ih (i+1) (by omega)
 have e1:u8i ((97:Int),([], []),([], []),0)=_:=key 97 0 rfl;have hs:u9p ()=some 97:=by rw[s5x];rfl
 refine⟨(List.replicate 97 z, []),?_,?_⟩
 .rw[p4h];unfold r9k;simp only[hs,zOb];rw[p0s];unfold r5f;have hi:r89 97 1 100=true:=rfl;simp only[s6u,hi,zOb,Ap,Aa,e1]
 .have hk:u1v (List.replicate 97 z,([] :Hu (Int×Hs)))=true:=o77.mpr ⟨by simp,by simp,fun s hs=>by rw[List.eq_of_mem_replicate hs];exact hz1,fun p hp=>by cases hp⟩;have hl:(List.replicate 97 z,([] :Hu (Int×Hs))).1.length=97:=by simp
  have hf:=r03 hk hl;have hc:∀a:Int,a=0\/a=1->u0z (List.replicate 97 z, []) a=0:=fun a ha=>by
   obtain⟨f1,_⟩:=t0z ha;unfold u0z u48;rw[d3g.mpr ha,Al rfl];have hk2:u0f a=(((u0f a).toNat:Nat):Int):=by rcases ha with rfl|rfl<;>omega
   rw[hk2,q0b rfl (by rw[hl];rcases ha with rfl|rfl<;>omega)];have hlt:(u0f a).toNat<(List.replicate 97 z).length:=by simp;rcases ha with rfl|rfl<;>omega
   have e:rdL Ty.str (List.replicate 97 z) (u0f a).toNat=(List.replicate 97 z)[(u0f a).toNat] :=y9a (t:=Ty.str) hlt;simp only[e,List.getElem_replicate];rw[p57,hz2];rfl
  refine⟨p4x hk hl rfl ?_ ?_,?_⟩
  .rw[t4e hf (.inl rfl),hc 0 (.inl rfl)];rfl
  .rw[t4e hf (.inr rfl),hc 1 (.inr rfl)];rfl
  .unfold u0d;rw[t4e hf (t32 _),hc _ (t32 _)];rfl
theorem u60{d:u0j}(h:u2k d=true):c2e.wt d<=10000000:=A9 (u2p (u58 h).1) (by omega)
theorem r9d(d:u0j)(hd:c2e.wt d<=1073741824):t8a d=some (u0d d):=by
 rw[o3b];unfold q5l;simp only[s9q d (show c2e.wt d<=u0i by unfold u0i;omega),r9g d _ hd,zOb];rfl
theorem o5g(a b:u0j)(ha:c2e.wt a<=1073741824)(hb:c2e.wt b<=1073741824):s8u (a,b)=some (o8q a b):=by
 rw[o0e];unfold q1n o8q d37;have h1:(u0d a).length<256:=q65 a (u0n a);simp only[r9d a ha,r9d b hb,zOb];generalize u0d a=a at h1;generalize u0d b=b;by_cases h:a.length=b.length
 .have hz:(a.zip b).length=a.length:=by simp[h]
  have L:=s4c t60 (a.zip b) (fun i=>(a,b,i)) (fun p=> !z7q p.1 p.2) (.inr false) (.inl ())
   (by rw[r48,hz];simp only[t6r,u0b,Am,Ah,Aa])
   (fun i hi=>by
    have hi1:i<a.length:=by omega
    have hi2:i<b.length:=by omega
    rw[r48];simp only[t6r,u0b,hi1,Ae,Ad,y8h hi1,y8h hi2,zTn,y9a (t:=Ty.str) hi1,y9a (t:=Ty.str) hi2,List.getElem_zip];rw[y7x (by omega)])
  have e1:decide ((a.length:Int)=(b.length:Int))=true:=by simp[h]
  simp only[e1,Ap,Aa,L,zOb];rw[←o8o h];cases (a.zip b).any fun p=> !z7q p.1 p.2<;>rfl
 .have e1:decide ((a.length:Int)=(b.length:Int))=false:=by simp;omega
  have e2:decide (a=b)=false:=by
   rw[Bu];intro e;exact h (by rw[e])
  rw[e1,e2];rfl
theorem j8t{s:Src}(h:s.ok)(l:Hu Int)(hl:0<l.length)(hm:l.length<=1000):Dr (t95 (s,l)) (fun y=>y∈l):=by
 obtain⟨y,s1,e1,k1,r1⟩:=r26 h (n:=(l.length:Int)) (by omega);rw[p6u];unfold r63;have hi:y.toNat<l.length:=by omega
 have hg:y4v y l.length=true:=y8g.mpr ⟨r1.1,r1.2⟩;simp only[e1,zOb,hg,Ad];refine⟨_,_,rfl,k1,?_⟩;show l.getD y.toNat 0∈l;rw[A5,A4 hi];exact Ag hi
theorem p2a(a:Hu Hs)(ha:a.length<=u0i):t5p (a,a)=some true:=by
 rw[q1v];unfold s8f
 have L:=s4c u77 a (fun i=>(a,a,i)) (fun p=> !z7q p p) (.inr false) (.inl ())
  (by rw[t7e];simp only[u74,u0b,Am,Ah,Aa])
  (fun i hi=>by
   rw[t7e];simp only[u74,u0b,hi,Ae,Ad,y8h hi,zTn,y9a (t:=Ty.str) hi];unfold u0i at ha;rw[y7x (by omega)])
 have hn:(a.any fun p=> !z7q p p)=false:=by
  rw[Ct];intro x _;simp[z7q]
 rw[hn]at L;simp only[Ae,Ap,Aa,L,zOb]
theorem p4t(d:u0j)(h:c2e.wt d<=1000000000):r1y (d,d)=some true:=by
 rw[o22];unfold q5e;have h1:=t48 (d:=d);have h2:=t7x (d:=d)
 have L:=s4c t9p d.2 (fun i=>(d,d,i)) (fun p=> !(decide (p.1=p.1)&&(z7q p.2 p.2&&true))) (.inr false) (.inl ())
  (by rw[r8q];simp only[t8y,u0b,Am,Ah,Aa])
  (fun i hi=>by
   rw[r8q];simp only[t8y,u0b,hi,Ae,Ad,y8h hi,zTn,y9a (t:=o7z) hi];rw[y7x (by omega)])
 have hn:(d.2.any fun p=> !(decide (p.1=p.1)&&(z7q p.2 p.2&&true)))=false:=by
  rw[Ct];intro x _;simp[z7q]
 rw[hn]at L;simp only[p2a d.1 (by unfold u0i;omega),zOb,Ap,Aa,Ae,L]
theorem d0q(b:u0m)(r:r21)(hB:BaseR b)(hR:RecR r):r6c (b,r)=some (match u3r b r with
 |some x=>(x,true)|none=>(b,false)):=by
 have hb:=hB.tiny;have thr:∀t:u0e,TxnR t->u9h (b,t)=some (u1u b t):=fun t ht=>by
  rw[p7h b t hb.few ht.tiny.few,o42 (o4g hB.cs) (r5t ht.id)]
 rw[o64];unfold p0e u3r;cases hR with
 |thr t h hs=>
  simp only[Ae,Ad,Bl];rw[s26 (o4g hB.cs),thr t h];by_cases q:t.2.2.2.1=b.2.2.2.1+1
  .rw[Bb q,Al q];rfl
  .rw[A7 q,Ao q];rfl
 |rdy t h hs=>
  simp only[show decide ((2:Int)=1)=false from rfl,show((2:Int)=1)=False by simp,Ae,Ah,Ad,Aa,Bl,Bk];rw[s3i b _ (by have:=hB.rlen;omega)];simp only[zOb];rw[q8s b t _ hb.few h.tiny.few (r5t h.id)];simp only[zOb];by_cases q:b.2.2.1.length<3
  .rw[A7 (show ¬(b.2.2.1.length:Int)>=3 by omega)];simp only[Aa,zOb];by_cases q2:u0k b t.2.2.2.2.2.2.2<0
   .rw[A7 (show ¬u0k b t.2.2.2.2.2.2.2>=0 by omega),Al ⟨q,q2⟩];rfl
   .rw[Bb (show u0k b t.2.2.2.2.2.2.2>=0 by omega),Ao (fun z=>q2 z.2)];rfl
  .rw[Bb (show(b.2.2.1.length:Int)>=3 by omega),Ao (fun z=>q z.1)];rfl
 |fin n y h=>
  simp only[show decide ((3:Int)=1)=false from rfl,show decide ((3:Int)=2)=false from rfl,show((3:Int)=1)=False by simp,show((3:Int)=2)=False by simp,Ae,Ah,Ad,Aa,Bl,Bk];rw[s3i b _ (by have:=hB.rlen;omega)];simp only[zOb];by_cases q:u0k b n<0
  .rw[Bb q,Al q];rfl
  .rw[A7 q,Ao q];simp only[Aa];rw[p69 b n hb.few];simp only[zOb];have hk:(u0k b n).toNat<b.2.2.1.length:=by
    unfold u0k at q⊢;split
    .rename_i z;rw[zTn];exact z
    .rename_i z;rw[Ao z]at q;omega
   obtain⟨k,hkk⟩:∃k:Nat,u0k b n=k:=⟨(u0k b n).toNat,by omega⟩;have hg:y4v (u0k b n) b.2.2.1.length=true:=by rw[hkk];exact y8h (by rw[hkk]at hk;simpa using hk)
   have hT:TxnR (rdL u0y b.2.2.1 (u0k b n).toNat):=by
    rw[y9a hk];exact(hB.ready _ (Ag hk)).1
   rw[hg,thr _ hT];cases y
   .rfl
   .rfl
 |bas c h=>
  simp only[show decide ((4:Int)=1)=false from rfl,show decide ((4:Int)=2)=false from rfl,show decide ((4:Int)=3)=false from rfl,show((4:Int)=1)=False by simp,show((4:Int)=2)=False by simp,show((4:Int)=3)=False by simp,Ah,Aa,Bk];rw[s5w c h.tiny.few];rfl
theorem d30{b:u0m}{r:r21}{x:u0m}(hB:BaseR b)(hR:RecR r)(h:u3r b r=some x):tinyB x:=by
 unfold u3r at h;cases hR with
 |thr t ht hs=>
  simp only[Bl]at h;split at h
  .rw[←Ds h];exact r4p hB ht.tiny
  .cases h
 |rdy t ht hs=>
  simp only[show((2:Int)=1)=False by simp,Bl,Bk]at h;split at h
  .rw[←Ds h];exact q78 hB ht.tiny (by have:=u2z (ht.name hs);omega)
  .cases h
 |fin n y hn=>
  simp only[show((3:Int)=1)=False by simp,show((3:Int)=2)=False by simp,Bl,Bk]at h;split at h
  .cases h
  .rename_i q;have hk:(u0k b n).toNat<b.2.2.1.length:=by
    unfold u0k at q⊢;split
    .rename_i z;rw[zTn];exact z
    .rename_i z;rw[Ao z]at q;omega
   split at h
   .rw[←Ds h];refine r4p hB ?_;rw[y9a hk];exact(hB.ready _ (Ag hk)).1.tiny
   .rw[←Ds h];exact q72 hB.tiny
 |bas c hc=>
  simp only[show((4:Int)=1)=False by simp,show((4:Int)=2)=False by simp,show((4:Int)=3)=False by simp,Bk]at h;rw[←Ds h];exact hc.tiny
theorem j51(b:u0m)(r:r21)(hb:tinyB b)(hr:tinyR r):r99 (b,r)=some (s9z b r):=by
 have hq:u0i=1099511627776:=rfl;rw[j0p];unfold p3l;simp only;rw[s5u b (by have:=hb.wt;omega),p2q r hr.wt,s5w b hb.few];simp only[zOb];cases h1:u95 b
 .unfold s9z t1m;rw[Ao (by simp[h1])];rfl
 .cases h2:u88 r
  .unfold s9z t1m;rw[Ao (by simp[h2])];rfl
  .have hB:=o72.mp h1;have hR:=d48.mp h2;simp only[Ap,Aa,zOb];rw[d0q b r hB hR];simp only[zOb];unfold s9z t1m;rw[Al ⟨h1,h2⟩];cases hx:u3r b r with
   |none=>rfl|some x=>
    have h3:=d30 hB hR hx;simp only[Ap,Aa];rw[r9i _ _ h3.few (by simp)];simp only[zOb];rw[s5u _ (by have:=(r2k h3 []).wt;omega)];simp only[zOb];cases u95 (tidied x [])<;>rfl
theorem j1c{b x:u0m}{r:r21}(h:t1m b r=some x):BaseR x/\RecR r:=by
 unfold t1m at h;split at h
 .rename_i q;split at h
  .cases h
  .split at h
   .rename_i z;rw[←Ds h];exact⟨o72.mp z,d48.mp q.2⟩
   .cases h
 .cases h
theorem o8n(t:Hs):tinyR (s1b t).1:=by
 unfold s1b;cases h:u6f t with
 |none=>exact d3q|some r=>exact(p46 h).1.tiny
theorem j7w(b:u0m)(t:Hs)(l:Hu Hs):s7x b (t::l)=bif !(s1b t).2 || !(s9z b (s1b t).1).2 then none else s7x (s9z b (s1b t).1).1 l:=by
 unfold s1b s9z;simp only[s7x];cases u6f t with
 |none=>rfl|some r=>
  simp only;cases t1m b r with
  |none=>rfl|some x=>rfl
def p8j(l:Hu Hs):u0m×Bool:=match t1a l with
 |some b=>(b,true)|none=>(u26,false)
theorem j2n(d:u0j)(hd:c2e.wt d<=1073741824)(ht:∀t∈u0d d,t.size<=u0i)(hl:(u0d d).length<=1000000):s0z d=some (p8j (u0d d)):=by
 have L:=q4l u8h (u0d d).length (fun(b:u0m) i=>(u26,b,u0d d,((u0d d).length:Int),i)) (fun i b=>match s7x b ((u0d d).drop i) with
  |some x=> .inl (u26,x)|none=> .inr (u26,false)) (fun _ b=>BaseR b)
  (fun b hb=>by
   rw[q27];simp only[s1g,u0b,Am,Ah,Aa];rw[F5];rfl)
  (fun i b hi hb=>by
   have hm:=Ag hi;have hd:(u0d d).drop i=(u0d d)[i] ::(u0d d).drop (i+1):=Ce hi;have hw:u8h (u26,b,u0d d,((u0d d).length:Int),(i:Int))=bif !(s1b (u0d d)[i]).2 || !(s9z b (s1b (u0d d)[i]).1).2 then some (.inr (u26,false)) else u8h (u26,(s9z b (s1b (u0d d)[i]).1).1,u0d d,((u0d d).length:Int),((i+1:Nat):Int)):=by
    rw[q27];simp only[s1g,u0b,hi,Ae,Ad,y8h hi,zTn,y9a (t:=Ty.str) hi,y7x (show i<4611686018427387904 by omega)];rw[o1e _ (ht _ hm)];simp only[zOb];rw[j50 b _ hb.tiny (o8n _)];simp only[zOb];cases (s1b (u0d d)[i]).2<;>cases (s9z b (s1b (u0d d)[i]).1).2<;>rfl
   rw[hw,hd,j7w];cases hc:(!(s1b (u0d d)[i]).2 || !(s9z b (s1b (u0d d)[i]).1).2)
   .refine .inr ⟨(s9z b (s1b (u0d d)[i]).1).1,?_,?_,rfl⟩
    .unfold s9z at hc⊢;cases hp:t1m b (s1b (u0d d)[i]).1 with
     |none=>rw[hp]at hc;simp at hc|some x=>exact(j1c hp).1
    .simp only[Aa]
   .exact .inl rfl) 0 j9f (Cn _) j4m
 rw[o5u];unfold q85;rw[o5m];unfold q8x;rw[r9c d hd];simp only[zOb];have L' :u8h ((([], [], [],0,0):u0m),(([], [], [],0,1):u0m),u0d d,((u0d d).length:Int),0)=_:=L;rw[L',Fh];unfold p8j t1a;cases s7x j9f (u0d d)<;>rfl
theorem j2o(d:u0j)(hd:c2e.wt d<=1073741824)(ht:∀t∈u0d d,t.size<=u0i)(hl:(u0d d).length<=1000000):s04 d=some (p8j (u0d d)):=by
 have L:=q4l u8j (u0d d).length (fun(b:u0m) i=>(u26,b,u0d d,i)) (fun i b=>match s7x b ((u0d d).drop i) with
  |some x=> .inl (u26,x)|none=> .inr (u26,false)) (fun _ b=>BaseR b)
  (fun b hb=>by
   rw[q3p];simp only[s1z,u0b,Am,Ah,Aa];rw[F5];rfl)
  (fun i b hi hb=>by
   have hm:=Ag hi;have hd:(u0d d).drop i=(u0d d)[i] ::(u0d d).drop (i+1):=Ce hi;have hw:u8j (u26,b,u0d d,(i:Int))=bif !(s1b (u0d d)[i]).2 || !(s9z b (s1b (u0d d)[i]).1).2 then some (.inr (u26,false)) else u8j (u26,(s9z b (s1b (u0d d)[i]).1).1,u0d d,((i+1:Nat):Int)):=by
    rw[q3p];simp only[s1z,u0b,hi,Ae,Ad,y8h hi,zTn,y9a (t:=Ty.str) hi,y7x (show i<4611686018427387904 by omega)];rw[o1f _ (ht _ hm)];simp only[zOb];rw[j51 b _ hb.tiny (o8n _)];simp only[zOb];cases (s1b (u0d d)[i]).2<;>cases (s9z b (s1b (u0d d)[i]).1).2<;>rfl
   rw[hw,hd,j7w];cases hc:(!(s1b (u0d d)[i]).2 || !(s9z b (s1b (u0d d)[i]).1).2)
   .refine .inr ⟨(s9z b (s1b (u0d d)[i]).1).1,?_,?_,rfl⟩
    .unfold s9z at hc⊢;cases hp:t1m b (s1b (u0d d)[i]).1 with
     |none=>rw[hp]at hc;simp at hc|some x=>exact(j1c hp).1
    .simp only[Aa]
   .exact .inl rfl) 0 j9f (Cn _) j4m
 rw[o6i];unfold q9r;rw[p0r];unfold r5e;rw[r9d d hd];simp only[zOb];have L' :u8j ((([], [], [],0,0):u0m),(([], [], [],0,1):u0m),u0d d,0)=_:=L;rw[L',Fh];unfold p8j t1a;cases s7x j9f (u0d d)<;>rfl
def j93:s3z:=((⟨#[97]⟩:Hs),(⟨#[122,122,122]⟩:Hs))
theorem j4y(t:Hs)(a:Int):(u0p t a).1.size<=20000:=by
 unfold u0p;split
 .rename_i hc;have:=s3t hc.1;simp only[Bd];omega
 .exact Cn _
theorem p76(t:Hs):∀(m:Nat) (a:Int) (acc:Hu Hs),(∀s∈acc,s.size<=20000)-> ∀s∈(u9b t m a acc).1,s.size<=20000
 |0,a,acc,h=>h|m+1,a,acc,h=>by
  unfold u9b;split
  .refine p76 t m _ _ fun s hs=> ?_
   rcases Ay.mp hs with q|q
   .exact h s q
   .rw[Ax.mp q];exact j4y _ _
  .intro s hs;cases hs
theorem o7j(d:u0j)(a:Int):∀s∈(u0c d a).1,s.size<=20000:=by
 unfold u0c;split
 .exact p76 _ _ _ _ fun s hs=>by cases hs
 .intro s hs;cases hs
theorem p1b(d:u0j):∀s∈u0d d,s.size<=20000:=o7j d _
theorem p8k(d:u0j):(u0d d).length<256:=q65 d _
theorem j2p(d:u0j)(hd:c2e.wt d<=1073741824):s0z d=some (p8j (u0d d)):=
 j2n d hd (fun t ht=>by have:=p1b d t ht;unfold u0i;omega) (by have:=p8k d;omega)
theorem o7w(d:u0j)(hd:c2e.wt d<=1073741824):s04 d=some (p8j (u0d d)):=
 j2o d hd (fun t ht=>by have:=p1b d t ht;unfold u0i;omega) (by have:=p8k d;omega)
theorem j73:∀ {l:Hu Hs} {b x:u0m},BaseR b->s7x b l=some x->BaseR x
 |[],b,x,hb,h=>by rw[←Ds h];exact hb
 |t::l,b,x,hb,h=>by
  simp only[s7x]at h;split at h
  .cases h
  .split at h
   .cases h
   .rename_i r _ y hy;exact j73 (j1c hy).1 h
theorem p8n{l:Hu Hs}{x:u0m}(h:t1a l=some x):BaseR x:=j73 j4m h
theorem j4i(l:Hu Hs):tinyB (p8j l).1:=by
 unfold p8j;cases h:t1a l with
 |none=>exact t5z|some b=>exact(p8n h).tiny
theorem t13(b:u0m)(o:Hu u0e)(hb:fewB b)(ho:q4a o):u0s (b,o)=some (b,o):=by
 have h1:=s5w b hb;have h2:=r0l o ho;rw[o66];unfold p0g;simp only[h1,h2,zOb]
theorem o7p(b:u0m)(o:Hu u0e)(hb:fewB b)(ho:q4a o):u11 (b,o)=some (b,o):=by
 have h1:=s5v b hb;have h2:=r9a o ho;rw[p6j];unfold r6s;simp only[h1,h2,zOb]
theorem EngR.ot{e:u3g}(h:EngR e){t:u0e}(ht:t∈e.2):tinyT t:=(h.open_ t ht).1.tiny
theorem EngR.fewO{e:u3g}(h:EngR e):q4a e.2:=r2l (by have:=h.olen;omega) fun t ht=>h.ot ht
theorem EngR.tinyO{e:u3g}(h:EngR e):tinyB e.1:=h.base.tiny
theorem EngR.fewB{e:u3g}(h:EngR e):Ab.fewB e.1:=h.base.tiny.few
theorem EngR.oth{e:u3g}(h:EngR e):∀t∈t1l e,tinyT t:=fun t ht=>by
 rcases Ay.mp ht with q|q
 .exact(h.base.past t q).1.tiny
 .exact(h.base.ready t q).1.tiny
theorem EngR.fewOth{e:u3g}(h:EngR e):q4a (t1l e):=r2l (by have:=h.base.plen;have:=h.base.rlen;simp only[t1l,Ba];omega) h.oth
theorem j1m(e:u3g)(id:Int):(s5h e id).length<=e.2.length:=Cs _ _
theorem t7g(e:u3g)(id:Int)(h:e.2.length<=4194304):u7o (e,id)=some (u2q e.2 id):=by
 have L:=q4l t7q (u0o (fun x:u0e=>decide (x.1=id)) e.2) (fun(_:Unit) i=>(id,e,i)) (fun _ _=>if u0o (fun x:u0e=>decide (x.1=id)) e.2<e.2.length then .inr ((u0o (fun x:u0e=>decide (x.1=id)) e.2:Nat):Int) else .inl ()) (fun _ _=>True)
  (fun a _=>by
   have hle:=t2l (fun x:u0e=>decide (x.1=id)) e.2;rw[q7t];by_cases hk:u0o (fun x:u0e=>decide (x.1=id)) e.2<e.2.length
   .have hy:=u9u hk;simp only[t7j,u0b,hk,Ae,Ad,y8h hk,zTn,y9a (t:=u0y) hk,hy,Bl]
   .simp only[t7j,u0b,hk,Ah,Aa,Bk])
  (fun i a hi _=> .inr ⟨(),trivial,rfl,by
   have hle:=t2l (fun x:u0e=>decide (x.1=id)) e.2;have hil:i<e.2.length:=by omega
   have hn:=u9n hil hi;rw[q7t];simp only[t7j,u0b,hil,Ae,Ad,y8h hil,zTn,y9a (t:=u0y) hil,hn,Aa];rw[y7x (by omega)]⟩) 0 () (Cn _) trivial
 have L:t7q (id,e,0)=_:=L;rw[j0n];unfold p3j u2q;simp only[L,zOb];by_cases hk:u0o (fun x:u0e=>decide (x.1=id)) e.2<e.2.length
 .simp only[Al hk]
 .simp only[Ao hk]
theorem s27(e:u3g)(id:Int)(h:e.2.length<=4194304):u84 (e,id)=some (u2q e.2 id):=by
 have hq:∀x∈e.2,s4z (x,id)=some (decide (x.1=id)):=fun x _=>by
  rw[o2l];unfold q4z;rfl
 have L:=Q.first (T:=u0y) (c:=Int) (W:=u1y) (q:=s4z) (p:=fun x:u0e=>decide (x.1=id)) (fun x=>t4h x) e.2 id (by omega) hq;rw[o96];unfold p21 u2q;simp only[t55,u66,L,zOb];by_cases hk:u0o (fun x:u0e=>decide (x.1=id)) e.2<e.2.length
 .simp only[Al hk,zOb]
 .simp only[Ao hk,zOb]
theorem d00{e:u3g}:(decide ((e.2.length:Int)>=4)= !decide (e.2.length<4))/\(decide (e.1.2.2.2.2>=9999)= !decide (e.1.2.2.2.2<9999)):=by
 constructor
 .by_cases h:e.2.length<4<;>simp[h] <;>omega
 .by_cases h:e.1.2.2.2.2<9999<;>simp[h] <;>omega
theorem j8l{e:u3g}(h:EngR e):q6z e=some (t64 e):=by
 have ho:=h.olen;have hn:=h.base.next;have h1:=t13 e.1 e.2 h.fewB h.fewO;have h2:=o88 e (by have:=h.tinyO.wt;have:=o00 (l:=e.2) (by omega) (fun t ht=>h.ot ht);have:=j7p e;omega);have h1:u0s e=some e:=h1;have hk:=d8u.mpr h;rw[j3p];unfold p7w t64;simp only[h1,h2,hk,zOb,Ap,Aa,d00.1,d00.2,Aw,u0v (show e.2.length+1<=1099511627776 by omega),Ad];by_cases c1:e.2.length<4
 .by_cases c2:e.1.2.2.2.2<9999
  .simp only[c1,c2,Ae,Ap,Aa,zOb,and_self,Bl,s26 (n:=e.1.2.2.2.2) (r5t hn)];rfl
  .simp only[c1,c2,Ae,Ah,Ap,Bh,Aa,Ad,zOb,and_false,Bk]
 .simp only[c1,Ah,Bh,Ad,zOb,false_and,Bk]
theorem c58(l:Hu s3z)(r:s3z):(l.any fun x=>z7q x.1 r.1&&(z7q x.2 r.2&&true))=d56 l r:=by
 unfold d56;simp only[Cz]
theorem q8u{t:u0e}{r:s3z}(ht:TxnR t)(h1:t.2.1=1)(hr:u3f r=true):s2z (t,r)=some (r0b t r):=by
 have hy:=ht.tiny;have hw:=hy.wt;have hl:=ht.rlen;have c0:=t4j t hy.few;have c1:=s3k t (by unfold u0i;omega);have k:=u2z (s:=r.1) (by unfold u3f at hr;simp only[Ai]at hr;exact hr.1);have k' :=u2z (s:=r.2) (by unfold u3f at hr;simp only[Ai]at hr;exact hr.2.1);have c2:=q4g r (by unfold u0i;omega) (by unfold u0i;omega);have ok:=p5c.mpr ht
 have L:=s4c t0v t.2.2.2.2.1 (fun i=>(t,r,(u3i:u0e),t,i)) (fun x=>z7q x.1 r.1&&(z7q x.2 r.2&&true)) (.inr (t,true)) (.inl (t,r,u3i,t))
  (by rw[r46];simp only[t6p,u0b,Am,Ah,Aa])
  (fun i hi=>by
   rw[r46];simp only[t6p,u0b,hi,Ae,Ad,y8h hi,zTn,y9a (t:=t3d) hi];rw[y7x (by omega)])
 rw[c58]at L;have L:t0v (t,r,((0,0,0,0, [], [],false,(⟨#[]⟩:Hs)):u0e),t,0)=_:=L;rw[o0b];unfold q1k r0b;simp only[c0,c1,c2,ok,hr,h1,zOb,Ae,Ap,Aa,L];cases d56 t.2.2.2.2.1 r
 .have e8:decide ((t.2.2.2.2.1.length:Int)>=8)= !decide (t.2.2.2.2.1.length<8):=by by_cases c:t.2.2.2.2.1.length<8<;>simp[c] <;>omega
  simp only[Aa,e8,Br,Bk];by_cases c:t.2.2.2.2.1.length<8
  .simp only[c,Ae,Ap,Aa,Aw,u0v (show t.2.2.2.2.1.length+1<=1099511627776 by omega),Ad,Bl];rfl
  .simp only[c,Ah,Bh,Ad,Bk]
 .rfl
theorem p5k{l:Hu WrT}{w:WrT}(h:u6d l=true)(hw:u4i w=true):u6d (p2e l w)=decide ((p2e l w).length<=8):=by
 by_cases c:(p2e l w).length<=8
 .rw[d1v h hw c,Bb c]
 .rw[A7 c];cases q:u6d (p2e l w)
  .rfl
  .exact absurd (d5c.mp q).2.2 c
theorem p5j{w:WrT}(h:u4i w=true):w.1.size<=3/\w.2.1.size<=12:=by
 unfold u4i at h;simp only[Ai,Ar]at h;exact⟨(u2z h.1).2,h.2.1⟩
theorem j5g{l:Hu WrT}(hn:l.length<=1000)(h:∀w∈l,u4i w=true):(Ty.sl u2m).wt l<=20000:=by
 have e:(Ty.sl u2m).wt l=l.length+(l.map u2m.wt).sum:=rfl;have s:=r8b (f:=u2m.wt) (k:=15) (l:=l) fun w hw=>by
  have:=p5j (h w hw);have e:u2m.wt w=w.1.size+(w.2.1.size+0):=rfl;omega
 omega
theorem j4t{l:Hu WrT}{w:WrT}(h:u6d l=true)(hw:u4i w=true):∀x∈p2e l w,u4i x=true:=fun x hx=>by
 rcases j76 hx with q|q
 .exact(d5c.mp h).1 x q
 .rw[q];exact hw
theorem o9m{t:u0e}{w:WrT}(ht:TxnR t)(h1:t.2.1=1)(hw:u4i w=true):r2h (t,w)=some (r5a t w):=by
 have hy:=ht.tiny;have ht8:=(d5c.mp ht.ws).2.2;have hl:=j75 t.2.2.2.2.2.1 w;have c0:=t4j t hy.few;have c1:=s3k t (by have:=hy.wt;unfold u0i;omega);have c2:=q4o w (by have:=p5j hw;unfold u0i;omega);have c3:=o9f t.2.2.2.2.2.1 w (by omega);have c4:=p2s (p2e t.2.2.2.2.2.1 w) (by have:=j5g (l:=p2e t.2.2.2.2.2.1 w) (by omega) (j4t ht.ws hw);unfold u0i;omega);have ok:=p5c.mpr ht;rw[o3m];unfold q5x r5a;simp only[c0,c1,c2,c3,c4,ok,hw,h1,zOb,Ae,Ap,Aa,p5k ht.ws hw];by_cases c:(p2e t.2.2.2.2.2.1 w).length<=8
 .simp only[c,Ae,Ap,Aa,Bl];unfold d13;rw[h1]
 .simp only[c,Ah,Bh,Ad,Bk]
def s5r(t:u0e)(l:Hu u2u)(k:Hs):Hs×Bool:=
 if u0o (fun w:WrT=>z7q w.1 k) t.2.2.2.2.2.1<t.2.2.2.2.2.1.length then
  (if(rdL u2m t.2.2.2.2.2.1 (u0o (fun w:WrT=>z7q w.1 k) t.2.2.2.2.2.1)).2.2=true then(emp,false) else((rdL u2m t.2.2.2.2.2.1 (u0o (fun w:WrT=>z7q w.1 k) t.2.2.2.2.2.1)).2.1,true))
 else r4m l k t.2.2.1
def r9t(t:u0e)(l:Hu u2u)(r:s3z):Hu PrT:=
 ((r9r (l.map (fun v=>v.1)++t.2.2.2.2.2.1.map fun w=>w.1)).filter fun k=>(s5r t l k).2&&inR r k).map fun k=>(k,(s5r t l k).1)
theorem o1b(t:u0e)(l:Hu u2u)(k:Hs)(ht:s8c t)(hl:l.length<=4194304):s96 (t,l,k)=some (s5r t l k):=by
 have h8:=ht.2
 have L:=q4l t7r (u0o (fun w:WrT=>z7q w.1 k) t.2.2.2.2.2.1) (fun(_:Unit) i=>(l,k,t,i)) (fun _ _=>if u0o (fun w:WrT=>z7q w.1 k) t.2.2.2.2.2.1<t.2.2.2.2.2.1.length then .inr (if(rdL u2m t.2.2.2.2.2.1 (u0o (fun w:WrT=>z7q w.1 k) t.2.2.2.2.2.1)).2.2=true then(emp,false) else((rdL u2m t.2.2.2.2.2.1 (u0o (fun w:WrT=>z7q w.1 k) t.2.2.2.2.2.1)).2.1,true)) else .inl (l,k,t)) (fun _ _=>True)
  (fun a _=>by
   have hle:=t2l (fun w:WrT=>z7q w.1 k) t.2.2.2.2.2.1;rw[q7u];by_cases hk:u0o (fun w:WrT=>z7q w.1 k) t.2.2.2.2.2.1<t.2.2.2.2.2.1.length
   .have hy:=u9u hk;simp only[t7k,u0b,hk,Ae,Ad,y8h hk,zTn,y9a (t:=u2m) hk,hy,Bl];cases (t.2.2.2.2.2.1[u0o (fun w:WrT=>z7q w.1 k) t.2.2.2.2.2.1]).2.2<;>rfl
   .simp only[t7k,u0b,hk,Ah,Aa,Bk])
  (fun i a hi _=> .inr ⟨(),trivial,rfl,by
   have hle:=t2l (fun w:WrT=>z7q w.1 k) t.2.2.2.2.2.1;have hil:i<t.2.2.2.2.2.1.length:=by omega
   have hn:=u9n hil hi;rw[q7u];simp only[t7k,u0b,hil,Ae,Ad,y8h hil,zTn,y9a (t:=u2m) hil,hn,Aa];rw[y7x (by omega)]⟩) 0 () (Cn _) trivial
 have L:t7r (l,k,t,0)=_:=L;rw[j0o];unfold p3k s5r;simp only[L,zOb];by_cases hk:u0o (fun w:WrT=>z7q w.1 k) t.2.2.2.2.2.1<t.2.2.2.2.2.1.length
 .simp only[Al hk]
 .simp only[Ao hk,o1i l k _ (show l.length<=1099511627776 by omega),zOb]
theorem j2l(t:u0e)(l:Hu u2u)(r:s3z)(ht:s8c t)(hl:l.length<=4194304):r55 (t,l,r)=some (r9t t l r):=by
 have h8:=ht.2
 have L:=t14 t4y t.2.2.2.2.2.1 (fun(a:Hu u2u) i=>(l,t,r,a,i)) (fun a (w:WrT)=>a++ [((w.1,emp,false,(0:Int)):u2u)]) (fun a=> .inl (l,t,r,a)) (fun i a=>a.length=l.length+i)
  (fun a _=>by rw[q3n];simp only[s1x,u0b,Am,Ah,Aa])
  (fun i hi a ha=>⟨by simp[ha];omega,by
   rw[q3n];simp only[s1x,u0b,hi,Ae,Ad,y8h hi,zTn,y9a (t:=u2m) hi,Aw,u0v (show a.length+1<=1099511627776 by omega)];rw[y7x (by omega)];rfl⟩) l rfl
 have fo:∀(ws:Hu WrT) (a:Hu u2u),ws.foldl (fun a (w:WrT)=>a++ [((w.1,emp,false,(0:Int)):u2u)]) a=a++ws.map fun w=>((w.1,emp,false,(0:Int)):u2u):=by
  intro ws
  induction ws with
  |nil=>intro a;simp|cons w ws ih=>intro a;rw[Bs,ih,C8,Bi];rfl
 rw[fo]at L;obtain⟨all,ha⟩:∃all,all=l++t.2.2.2.2.2.1.map fun w:WrT=>((w.1,emp,false,(0:Int)):u2u):=⟨_,rfl⟩
 rw[←ha]at L;have hal:all.length<=6000000:=by rw[ha];simp;omega
 have hmap:all.map (fun v=>v.1)=l.map (fun v=>v.1)++t.2.2.2.2.2.1.map fun w=>w.1:=by
  rw[ha,Dh,List.map_map];rfl
 obtain⟨ks,hks⟩:∃ks,ks=(r9r (all.map fun v=>v.1)).filter fun k=>inR r k:=⟨_,rfl⟩
 have hkl:ks.length<=all.length:=by
  rw[hks];refine A9 (Cs _ _) (A9 (r7c _) (by simp))
 have L2:=s80 s2i ks (fun a i=>(l,t,a,ks,i)) (fun k=>(s5r t l k).2) (fun k=>(k,(s5r t l k).1)) (fun a=> .inl a) (by omega)
  (fun a _=>by rw[q3o];simp only[s1y,u0b,Am,Ah,Aa])
  (fun i hi a ha=>by
   rw[q3o];simp only[s1y,u0b,hi,Ae,Ad,y8h hi,zTn,y9a (t:=Ty.str) hi,o1b t l _ ht hl,zOb,Aw,u0v (show a.length+1<=1099511627776 by omega)];rw[y7x (by omega)])
 have L:t4y (l,t,r,l,0)=_:=L;rw[o6h];unfold q9q;simp only[Cc,Co,Cf,u0v (show l.length<=1099511627776 by omega),Ad,L,zOb,j2j all r (show all.length<=500000000000 by omega)];rw[←hks];simp only[L2,zOb];rw[hks,List.filter_filter,hmap];rfl
theorem j1i{k:Hs}:u3f (k,k)=u81 k:=by
 unfold u3f;have:z7q k k=true:=by simp[z7q]
 rw[this,Ew,Cz,Dt]
def j03(e:u3g)(id:Int)(k:Hs):u3g×Hs×Bool×Int:=
 if(r1i e id (k,k) (u81 k)).2=0 then((r1i e id (k,k) (u81 k)).1,(s5r (u3c e id) e.1.1 k).1,(s5r (u3c e id) e.1.1 k).2,0)
 else((r1i e id (k,k) (u81 k)).1,emp,false,(r1i e id (k,k) (u81 k)).2)
def p48(e:u3g)(id:Int)(r:s3z):u3g×Hu PrT×Int:=
 if(r1i e id r (u3f r)).2=0 then((r1i e id r (u3f r)).1,r9t (u3c e id) e.1.1 r,0) else((r1i e id r (u3f r)).1, [],(r1i e id r (u3f r)).2)
theorem o4o{t:u0e}{r:s3z}:(r0b t r).1.2.2.1=t.2.2.1/\(r0b t r).1.2.2.2.2.2.1=t.2.2.2.2.2.1:=by
 unfold r0b;split
 .exact⟨rfl,rfl⟩
 .split<;>exact⟨rfl,rfl⟩
theorem o4i(t:u0e)(r:s3z)(l:Hu u2u)(k:Hs):s5r (r0b t r).1 l k=s5r t l k:=by
 unfold s5r;rw[o4o.1,o4o.2]
theorem j4p(t:u0e)(r q:s3z)(l:Hu u2u):r9t (r0b t r).1 l q=r9t t l q:=by
 unfold r9t;rw[o4o.2];simp only[o4i]
theorem j4x{t:u0e}{r:s3z}(h:tinyT t):s8c (r0b t r).1:=by
 unfold r0b;split
 .exact h.few
 .split
  .refine⟨?_,h.few.2⟩;show(t.2.2.2.2.1++ [r]).length<=1048576;have:=h.rl;simp;omega
  .exact h.few
theorem j5x{e:u3g}(h:EngR e)(id:Int){k:Hs}(hk:k.size<=1048576):r97 (e,id,k)=some (j03 e id k):=by
 have ho:=h.olen;have h1:u0s e=some e:=t13 e.1 e.2 h.fewB h.fewO;have h2:=t7g e id (by omega);have h3:=s3g k (by unfold u0i;omega);rw[j0m];unfold p3i j03 r1i;simp only[h1,h2,h3,zOb];by_cases hn:u2q e.2 id<0
 .simp only[hn,Ae,Ad,Bl];rfl
 .obtain⟨j,hj,e1,e2,e3⟩:=u16 hn;have hR:=h.open_ _ (Ag hj);simp only[hn,Ah,Aa,Bk];cases hok:u81 k with
  |false=>rfl|true=>
   have c:=q8u (r:=(k,k)) hR.1 hR.2.1 (by rw[j1i];exact hok);simp only[Ap,Aa,e1,y8h hj,Ad,zTn,y9a (t:=u0y) hj,c,zOb,e2,Fm,Bk];cases hr:(r0b e.2[j] (k,k)).2 with
   |false=>rfl|true=>
    have g:=o1b (r0b e.2[j] (k,k)).1 e.1.1 k (j4x hR.1.tiny) (by have:=h.tinyO.vl;omega);simp only[Ap,Aa,g,zOb,Bl,o4i];rfl
theorem o9i{e:u3g}(h:EngR e)(id:Int){r:s3z}(hk:r.1.size<=1048576/\r.2.size<=1048576):r2e (e,id,r)=some (p48 e id r):=by
 have ho:=h.olen;have h1:u0s e=some e:=t13 e.1 e.2 h.fewB h.fewO;have h2:=t7g e id (by omega);have h3:=q4g r (by unfold u0i;omega) (by unfold u0i;omega);rw[o3i];unfold q5s p48 r1i;simp only[h1,h2,h3,zOb];by_cases hn:u2q e.2 id<0
 .simp only[hn,Ae,Ad,Bl];rfl
 .obtain⟨j,hj,e1,e2,e3⟩:=u16 hn;have hR:=h.open_ _ (Ag hj);simp only[hn,Ah,Aa,Bk];cases hok:u3f r with
  |false=>rfl|true=>
   have c:=q8u (r:=r) hR.1 hR.2.1 hok;simp only[Ap,Aa,e1,y8h hj,Ad,zTn,y9a (t:=u0y) hj,c,zOb,e2,Fm,Bk];cases hr:(r0b e.2[j] r).2 with
   |false=>rfl|true=>
    have g:=j2l (r0b e.2[j] r).1 e.1.1 r (j4x hR.1.tiny) (by have:=h.tinyO.vl;omega);simp only[Ap,Aa,g,zOb,Bl,j4p];rfl
theorem o1d{e:u3g}(h:EngR e)(id:Int){w:WrT}(hw:w.1.size<=1048576):s97 (e,id,w)=some (j1z e id w):=by
 have ho:=h.olen;have h1:u0s e=some e:=t13 e.1 e.2 h.fewB h.fewO;have h2:=t7g e id (by omega);have h3:=q4o w (by unfold u0i;omega);rw[j0q];unfold p3m j1z;simp only[h1,h2,h3,zOb];by_cases hn:u2q e.2 id<0
 .simp only[hn,Ae,Ad,Bl]
 .obtain⟨j,hj,e1,e2,e3⟩:=u16 hn;have hR:=h.open_ _ (Ag hj);simp only[hn,Ah,Aa,Bk];cases hok:u4i w with
  |false=>rfl|true=>
   have c:=o9m (w:=w) hR.1 hR.2.1 hok;simp only[Ap,Aa,e1,y8h hj,Ad,zTn,y9a (t:=u0y) hj,c,zOb,e2,Fm,Bk];cases hr:(r5a e.2[j] w).2 with
   |false=>rfl|true=>rfl
theorem r9e(b:u0m)(o:Hu u0e)(id:Int)(hb:fewB b)(ho:o.length<=1000):u1m ((b,o),id)=some ((tidied b (o.filter fun x=> !decide (x.1=id))),o.filter fun x=> !decide (x.1=id)):=by
 have L:=s80 t7t o (fun a i=>((b,o),id,a,i)) (fun x:u0e=> !decide (x.1=id)) (fun x=>x) (fun a=> .inl ((b,o),a)) (by omega)
  (fun a _=>by rw[q7x];simp only[s4b,u0b,Am,Ah,Aa])
  (fun i hi a ha=>by
   rw[q7x];simp only[s4b,u0b,hi,Ae,Ad,y8h hi,zTn,y9a (t:=u0y) hi,Aw,u0v (show a.length+1<=1099511627776 by omega)];rw[y7x (by omega)])
 rw[Er]at L;have L:t7t ((b,o),id, [],0)=_:=L;have hl:=Cs (fun x:u0e=> !decide (x.1=id)) o;rw[j01];unfold p3x;simp only[L,zOb,r9i b (o.filter fun x=> !decide (x.1=id)) hb (by omega)]
theorem j8q{e:u3g}(h:EngR e)(id:Int):q60 (e,id)=some (s7t e id):=by
 have ho:=h.olen;have h1:u0s e=some e:=t13 e.1 e.2 h.fewB h.fewO;have h2:=t7g e id (by omega);have h3:u1m (e,id)=some (leaveE e id):=r9e e.1 e.2 id h.fewB (by omega);rw[j3s];unfold p7z s7t;simp only[h1,h2,h3,zOb];by_cases hn:u2q e.2 id<0
 .simp only[hn,Ae,Ad,Bl]
 .simp only[hn,Ah,Aa,Bk]
theorem d8s{E:Type}(l:Hu E)(f g:E->Bool):l.any (fun x=>f x || g x)=(l.any f || l.any g):=by
 induction l with
 |nil=>rfl|cons x l ih=>
  simp only[Gd,ih];cases f x<;>cases g x<;>cases l.any f<;>cases l.any g<;>rfl
theorem d23{E:Type}(l:Hu E)(f g:E->Bool)(i:Bool):l.any (fun x=>f x&&(i || g x))=((i&&l.any f) || l.any fun x=>f x&&g x):=by
 cases i
 .simp
 .simp only[Dx,Cz,Bz];cases h:l.any f with
  |true=>rfl|false=>
   rw[Ct]at h;symm;rw[Ci,Ct];intro x hx;have:=h x hx;simp[this]
theorem j2b(t:u0e)(l:Hu u0e)(ht:s8c t)(hl:q4a l):r53 (t,l)=some (q58 t l):=by
 obtain⟨l1,l2⟩:=hl
 have L:=s4c t4w l (fun i=>(l,t,i)) (fun x=> !decide (x.1=t.1)&&((decide (x.2.1=2) || (decide (x.2.1=3)&&decide (x.2.2.2.1 >t.2.2.1)))&&q8m x.2.2.2.2.2.1 t.2.2.2.2.2.1)) (.inr true) (.inl ())
  (by rw[q3k];simp only[s1t,u0b,Am,Ah,Aa])
  (fun i hi=>by
   have h1:=j8s l[i].2.2.2.2.2.1 t.2.2.2.2.2.1 (t1q (l2 _ (Ag hi)).2) (t1q ht.2);rw[q3k];simp only[s1t,u0b,hi,Ae,Ad,y8h hi,zTn,y9a (t:=u0y) hi,h1,zOb];rw[y7x (by omega)];cases decide (l[i].1=t.1)<;>cases decide (l[i].2.1=2)<;>cases decide (l[i].2.1=3)<;>cases decide (l[i].2.2.2.1 >t.2.2.1)<;>cases q8m l[i].2.2.2.2.2.1 t.2.2.2.2.2.1<;>rfl)
 rw[o6c];unfold q9l q58;have L:t4w (l,t,0)=_:=L;simp only[L,zOb];cases l.any fun x:u0e=> !decide (x.1=t.1)&&((decide (x.2.1=2) || (decide (x.2.1=3)&&decide (x.2.2.2.1 >t.2.2.1)))&&q8m x.2.2.2.2.2.1 t.2.2.2.2.2.1)<;>rfl
theorem j2i(t:u0e)(l:Hu u0e)(ht:s8c t)(hl:q4a l):r98 (t,l)=some (j5l t l):=by
 obtain⟨l1,l2⟩:=hl
 have L:=s4c s4i l (fun i=>(l,t,i)) (fun x=>j6l x&&ahead x t) (.inr true) (.inl ())
  (by rw[p5i];simp only[s9r,u0b,Am,Ah,Aa])
  (fun i hi=>by
   have h1:=t8m l[i] t (t1q (l2 _ (Ag hi)).1) (t1q ht.2);rw[p5i];simp only[s9r,u0b,hi,Ae,Ad,y8h hi,zTn,y9a (t:=u0y) hi,h1,zOb,j6l];rw[y7x (by omega)];cases decide (l[i].2.1=2)<;>cases decide (l[i].2.1=3)<;>cases ahead l[i] t<;>rfl)
 rw[j6h];unfold o1p j5l;have L:s4i (l,t,0)=_:=L;simp only[L,zOb];cases l.any fun x=>j6l x&&ahead x t<;>rfl
def o9x(t:u0e)(l:Hu u0e)(p:u0e):Bool:=
 (j6l p&&(p.2.2.2.2.2.2.1&&ahead t p)) || (decide (p.2.1=2)&&(ahead p t&&(ahead t p || l.any fun x=>decide (x.2.1=2)&&(!decide (x.1=t.1)&&ahead x p))))
theorem d26(t:u0e)(l:Hu u0e):p0p t l=((j5l t l&&p40 t l) || l.any (o9x t l)):=by
 unfold p0p r5n;rw[←d8s];rfl
theorem o05(t:u0e)(l:Hu u0e)(ht:s8c t)(hl:q4a l):s94 (t,l)=some (p0p t l):=by
 obtain⟨l1,l2⟩:=hl;have inner:∀(i:Nat) (hi:i<l.length),t0d (l,t,(i:Int),l[i],0)=some (bif (decide (l[i].2.1=2)&&ahead l[i] t)&&(l.any fun x=>decide (x.2.1=2)&&(!decide (x.1=t.1)&&ahead x l[i])) then .inr true else .inl (l,t,(i:Int))):=fun i hi=>by
  have g1:=t8m l[i] t (t1q (l2 _ (Ag hi)).1) (t1q ht.2);cases hg:(decide (l[i].2.1=2)&&ahead l[i] t) with
  |false=>
   have e0:t0d (l,t,(i:Int),l[i],0)=_:=s8y _;rw[e0];simp only[t4k,g1,zOb,Fx,Aa];cases decide ((0:Int)<(l.length:Int))
   .rfl
   .revert hg
    cases decide (l[i].2.1=2)<;>cases ahead l[i] t<;>simp
  |true=>
   rw[Ai,Ar]at hg;obtain⟨q1,q2⟩:=hg
   have L:=s4c t0d l (fun k=>(l,t,(i:Int),l[i],k)) (fun x=>decide (x.2.1=2)&&(!decide (x.1=t.1)&&ahead x l[i])) (.inr true) (.inl (l,t,(i:Int)))
    (by rw[s8y];simp only[t4k,u0b,Am,Ah,Aa,zOb])
    (fun k hk=>by
     have g2:=t8m l[k] l[i] (t1q (l2 _ (Ag hk)).1) (t1q (l2 _ (Ag hi)).2);rw[s8y];simp only[t4k,u0b,hk,Ae,Ad,q1,g1,q2,g2,y8h hk,zTn,y9a (t:=u0y) hk,zOb];rw[y7x (by omega)];cases decide (l[k].2.1=2)<;>cases decide (l[k].1=t.1)<;>cases ahead l[k] l[i] <;>rfl)
   rw[Bz];exact L
 have L:=s4c t7p l (fun i=>(l,t,i)) (o9x t l) (.inr true) (.inl ())
  (by rw[q7q];simp only[s36,u0b,Am,Ah,Aa])
  (fun i hi=>by
   have g1:=t8m l[i] t (t1q (l2 _ (Ag hi)).1) (t1q ht.2);have g2:=t8m t l[i] (t1q ht.1) (t1q (l2 _ (Ag hi)).2);rw[q7q];simp only[s36,u0b,hi,Ae,Ad,y8h hi,zTn,y9a (t:=u0y) hi,g1,g2,inner i hi,zOb,o9x,j6l];have ws:=y7x (i:=i) (by omega);cases decide (l[i].2.1=2)<;>cases decide (l[i].2.1=3)<;>cases l[i].2.2.2.2.2.2.1<;>cases ahead l[i] t<;>cases ahead t l[i] <;>cases (l.any fun x=>decide (x.2.1=2)&&(!decide (x.1=t.1)&&ahead x l[i]))<;>first|rfl|(simp only[Dt,Fy,Fx,Bz,Fp,Ew,Ci,Ad,Aa,zOb,ws]))
 rw[j0j];unfold p3f;have L:t7p (l,t,0)=_:=L;simp only[j2i t l ht ⟨l1,l2⟩,p50 t l ht ⟨l1,l2⟩,L,zOb];rw[d26];cases j5l t l<;>cases p40 t l<;>cases l.any (o9x t l)<;>rfl
theorem p8y(t:u0e)(l:Hu u0e)(ht:s8c t)(hl:q4a l):s48 (t,l)=some (t8d t l):=by
 obtain⟨l1,l2⟩:=hl;have inner:∀(i:Nat) (hi:i<l.length) (b:Bool),u7q (l,t,b,(i:Int),l[i],0)=some (bif (l.any fun y=>decide (y.2.1=2)&&(!decide (y.1=t.1)&&ahead l[i] y)) then .inr true else .inl (l,t,b,(i:Int))):=fun i hi b=>
  s4c u7q l (fun k=>(l,t,b,(i:Int),l[i],k)) (fun y=>decide (y.2.1=2)&&(!decide (y.1=t.1)&&ahead l[i] y)) (.inr true) (.inl (l,t,b,(i:Int)))
   (by rw[s8b];simp only[t0p,u0b,Am,Ah,Aa,zOb])
   (fun k hk=>by
    have g2:=t8m l[i] l[k] (t1q (l2 _ (Ag hi)).1) (t1q (l2 _ (Ag hk)).2);rw[s8b];simp only[t0p,u0b,hk,Ae,Ad,g2,y8h hk,zTn,y9a (t:=u0y) hk,zOb];rw[y7x (by omega)];cases decide (l[k].2.1=2)<;>cases decide (l[k].1=t.1)<;>cases ahead l[i] l[k] <;>rfl)
 have L:=s4c u8w l (fun i=>(l,t,j5l t l,i)) (fun x=>(decide (x.2.1=2)&&ahead t x)&&(j5l t l || l.any fun y=>decide (y.2.1=2)&&(!decide (y.1=t.1)&&ahead x y))) (.inr true) (.inl ())
  (by rw[s9o];simp only[t1w,u0b,Am,Ah,Aa])
  (fun i hi=>by
   have g2:=t8m t l[i] (t1q ht.1) (t1q (l2 _ (Ag hi)).2);rw[s9o];simp only[t1w,u0b,hi,Ae,Ad,y8h hi,zTn,y9a (t:=u0y) hi,g2,inner i hi (j5l t l),zOb];have ws:=y7x (i:=i) (by omega);cases decide (l[i].2.1=2)<;>cases ahead t l[i] <;>cases j5l t l<;>cases (l.any fun y=>decide (y.2.1=2)&&(!decide (y.1=t.1)&&ahead l[i] y))<;>first|rfl|(simp only[Dt,Fy,Fx,Bz,Fp,Ew,Ci,Ap,Bh,Ad,Aa,zOb,ws]))
 rw[d23]at L;rw[p4j];unfold r3k t8d s3u;have L:u8w (l,t,j5l t l,0)=_:=L;simp only[o05 t l ht ⟨l1,l2⟩,j2i t l ht ⟨l1,l2⟩,L,zOb];have e:r5n (fun x:u0e=> !decide (x.1=t.1)) t l=p0p t l:=rfl;rw[e];cases p0p t l<;>cases ((j5l t l&&l.any fun x=>decide (x.2.1=2)&&ahead t x) || l.any fun x=>(decide (x.2.1=2)&&ahead t x)&&l.any fun y=>decide (y.2.1=2)&&(!decide (y.1=t.1)&&ahead x y))<;>rfl
theorem j7c(b:u0m)(hb:fewB b):t97 b=some (b.2.1++b.2.2.1):=by
 have h1:=hb.2.1.1;have h2:=hb.2.2.1;rw[j00];unfold p3w;simp only[Cc,Co,Cf,u0v (show b.2.1.length<=1099511627776 by omega),u0v (show b.2.1.length+b.2.2.1.length<=1099511627776 by omega),Ad]
theorem o7u{e:u3g}(h:EngR e)(id:Int):r4i (e,id)=some (s4s e id):=by
 have ho:=h.olen;have h2:=t7g e id (by omega);have h3:=j7c e.1 h.fewB;have h3:t97 e.1=some (t1l e):=h3;have h4:=j38 e.1;rw[j3q];unfold p7x s4s;simp only[h2,h3,zOb];by_cases hn:u2q e.2 id<0
 .simp only[hn,Ae,Ad,Bl]
 .obtain⟨j,hj,e1,e2,e3⟩:=u16 hn;have hT:=(h.ot (Ag hj)).few;simp only[hn,Ah,Aa,Bk,e1,y8h hj,Ad,zTn,y9a (t:=u0y) hj,j2b _ _ hT h.fewOth,o05 _ _ hT h.fewOth,h4,zOb,e2];have hn' : ¬((j:Int)<0):=by omega
  simp only[hn',Ah,Aa,Bk];cases q58 e.2[j] (t1l e)<;>cases p0p e.2[j] (t1l e)<;>cases s8i e.1<;>rfl
theorem p8r{b:u0m}{t:u0e}{n:Hs}(h: ¬(0<=u0k b n)):∃(k:Nat) (hk:k<(u21 b t n).2.2.1.length),u0k (u21 b t n) n=(k:Int)/\(u21 b t n).2.2.1[k] =u70 b t n:=by
 have hb:=d6m.mp (show u0k b n<0 by omega);have hm:u70 b t n∈(u21 b t n).2.2.1:=by
  show u70 b t n∈(b.2.2.1.filter fun x=>y3i x.2.2.2.2.2.2.2 n)++ [u70 b t n] ++(b.2.2.1.filter fun x=> !y3i x.2.2.2.2.2.2.2 n);simp
 have hn: ¬u0k (u21 b t n) n<0:=fun q=>d6m.mp q _ hm rfl
 obtain⟨k,hk,e1,e2⟩:=t8c hn;refine⟨k,hk,e1,?_⟩;have hx:=Ag hk;have hx:(u21 b t n).2.2.1[k] ∈(b.2.2.1.filter fun x=>y3i x.2.2.2.2.2.2.2 n)++ [u70 b t n] ++(b.2.2.1.filter fun x=> !y3i x.2.2.2.2.2.2.2 n):=hx;simp only[Ay,A6,Ax]at hx;rcases hx with (q|q)|q
 .exact absurd e2 (hb _ q.1)
 .exact q
 .exact absurd e2 (hb _ q.1)
theorem EngR.mids{e:u3g}(h:EngR e):j95 e.1.2.2.2.1:=o4g h.base.cs
theorem j7f{e:u3g}(h:EngR e){t:u0e}(ht:t∈e.2\/t∈e.1.2.2.1):u9h (e.1,t)=some (u1u e.1 t):=by
 have hT:TxnR t:=by
  rcases ht with q|q
  .exact(h.open_ t q).1
  .exact(h.base.ready t q).1
 rw[p7h e.1 t h.fewB hT.tiny.few,o42 h.mids (r5t hT.id)]
theorem o0s{e:u3g}(h:EngR e){t:u0e}(ht:t∈e.2\/t∈e.1.2.2.1):tinyB (u1u e.1 t):=by
 have hT:TxnR t:=by
  rcases ht with q|q
  .exact(h.open_ t q).1
  .exact(h.base.ready t q).1
 exact r4p h.base hT.tiny
theorem j4r(b:u0m)(t:u0e)(hb:b.2.1.length<=1000):∃(k:Nat) (hk:k<(u1u b t).2.1.length),i64.wrap (((u1u b t).2.1.length:Int) - (1:Int))=(k:Int)/\(u1u b t).2.1[k] =s9u b t:=by
 have e:(u1u b t).2.1=b.2.1++ [s9u b t] :=rfl;refine⟨b.2.1.length,by rw[e];simp,?_,?_⟩
 .rw[e,Ba,Aw,y5f (by omega) (by omega)];omega
 .simp[e]
theorem j3a{b:u0m}{t:u0e}(h:s8c t):s8c (s9u b t):=h
theorem j5s{e:u3g}(h:EngR e)(id:Int):r95 (e,id)=some (u4s e id):=by
 have ho:=h.olen;have h1:u0s e=some e:=t13 e.1 e.2 h.fewB h.fewO;have h2:=t7g e id (by omega);have hJ:=o7u h id;have hO:u1m (e,id)=some (leaveE e id):=r9e e.1 e.2 id h.fewB (by omega);rw[j0i];unfold p3e u4s;simp only[h1,hJ,zOb];by_cases c1:s4s e id=1
 .simp only[c1,Ae,Ad,Bl];rfl
 .simp only[c1,Ah,Aa,Bk];by_cases c0:s4s e id=0
  .obtain⟨hn,_,_,_⟩:=q6d c0;obtain⟨j,hj,e1,e2,e3⟩:=u16 hn;have hm:e.2[j] ∈e.2\/e.2[j] ∈e.1.2.2.1:= .inl (Ag hj);have hT:=j7f h hm;obtain⟨k,hk,f1,f2⟩:=j4r e.1 e.2[j] (by have:=h.base.plen;omega);have hC:=t4j (s9u e.1 e.2[j]) (j3a (h.ot (Ag hj)).few);have hO2:=r9e (u1u e.1 e.2[j]) e.2 id (o0s h hm).few (by omega);simp only[c0,Ae,Ap,Aa,Bl,h2,e1,y8h hj,Ad,zTn,y9a (t:=u0y) hj,hT,f1,y8h hk,y9a (t:=u0y) hk,f2,hC,hO2,zOb,e2];show some _=some (q59 e e.2[j],_);unfold q59 s5h;rw[e3];rfl
  .simp only[c0,Ah,Bh,Ad,Bk,hO,zOb];rfl
theorem j2r{e:u3g}(h:EngR e)(id:Int){n:Hs}(hn1:n.size<=1048576):r56 (e,id,n)=some (s3x e id n):=by
 have ho:=h.olen;have h1:u0s e=some e:=t13 e.1 e.2 h.fewB h.fewO;have h2:=t7g e id (by omega);have hK:=s3g n (by unfold u0i;omega);have hA:u2f (e.1,n)=some (u0k e.1 n):=s3i e.1 n (by have:=h.base.rlen;omega);have hJ:=o7u h id;have hL:t97 e.1=some (t1l e):=j7c e.1 h.fewB;have hO:u1m (e,id)=some (leaveE e id):=r9e e.1 e.2 id h.fewB (by omega);rw[o6j];unfold q9s s3x;simp only[h1,h2,zOb];by_cases c1:u2q e.2 id<0
 .simp only[c1,Ae,Ad,Bl];rfl
 simp only[c1,Ah,Aa,Bk,hK,zOb];cases c2:u81 n with
 |false=>simp only[Bh,Ad,Bl];rfl|true=>
 simp only[Ap,Aa,Fm,Bk,hA,zOb];by_cases c3:0<=u0k e.1 n
 .have c3' :decide (u0k e.1 n>=0)=true:=by simpa using c3
  simp only[c3,c3',Ad,Bl];rfl
 have c3' :decide (u0k e.1 n>=0)=false:=by simpa using c3
 simp only[c3,c3',Aa,Bk,hJ,zOb];unfold s6w;by_cases c4:s4s e id=0
 .obtain⟨j,hj,e1,e2,e3⟩:=u16 c1;have hT:=(h.ot (Ag hj));have hTR:=(h.open_ _ (Ag hj)).1;have hD:=p8y e.2[j] (t1l e) hT.few h.fewOth;have hr:=h.base.rlen;simp only[c4,Ae,e1,y8h hj,Ad,zTn,y9a (t:=u0y) hj,hL,hD,zOb,e2,ne_eq,not_true_eq_false,Bk];cases c5:t8d e.2[j] (t1l e) with
  |true=>
   have d5:decide ((5:Int)=0)=false:=by decide
   simp only[Ad,d5,Aa,zOb,Bh,hO,Bl];rfl
  |false=>
   simp only[Aa,zOb,Br,Bk];have e6:decide ((e.1.2.2.1.length:Int)>=3)=decide (3<=e.1.2.2.1.length):=by simp;omega
   simp only[e6];by_cases c6:3<=e.1.2.2.1.length
   .have d3:decide ((3:Int)=0)=false:=by decide
    simp only[c6,Ae,Ad,d3,Bh,hO,zOb,Bl];rfl
   .have hM:=q8s e.1 e.2[j] n h.fewB hT.few (r5t hTR.id);obtain⟨k,hk,f1,f2⟩:=p8r (t:=e.2[j]) c3;have hns:n.size<=100:=by have:=(u2z c2).2;omega
    have hMt:=q78 (t:=e.2[j]) h.base hT hns;have hA2:u2f (u21 e.1 e.2[j] n,n)=some ((k:Nat):Int):=by rw[s3i _ n (by have:=hMt.rl;omega),f1]
    have hC:=t4j (u70 e.1 e.2[j] n) hT.few;have hO2:=r9e (u21 e.1 e.2[j] n) e.2 id hMt.few (by omega);simp only[c6,Ah,Aa,Ae,Ap,y8h hj,Ad,y9a (t:=u0y) hj,hM,hA2,y8h hk,zTn,y9a (t:=u0y) hk,f2,hC,hO2,zOb,Bk,Bl];show some _=some (j6u e e.2[j] n,_);unfold j6u s5h;rw[e3];rfl
 .simp only[c4,Ah,Aa,zOb,Bh,Ad,hO,ne_eq,not_false_eq_true,Bl,Bk];rfl
theorem o9a{e:u3g}(h:EngR e)(n:Hs)(yes:Bool):r96 (e,n,yes)=some (p0z e n yes):=by
 have ho:=h.olen;have h1:u0s e=some e:=t13 e.1 e.2 h.fewB h.fewO;have hA:u2f (e.1,n)=some (u0k e.1 n):=s3i e.1 n (by have:=h.base.rlen;omega);have hF:=j38 e.1;have hG:=p69 e.1 n h.fewB;have hG2:=r9i (s3a e.1 n) e.2 (q72 h.tinyO).few (by omega);rw[j0l];unfold p3h p0z;simp only[h1,hA,hF,zOb];by_cases c1:u0k e.1 n<0
 .simp only[c1,Ae,Ad,Bl];rfl
 obtain⟨k,hk,f1,f2⟩:=t8c c1;simp only[c1,Ah,Aa,Bk];cases yes with
 |false=>simp only[Aa,zOb,hG,hG2,Br,false_and,Bk];rfl|true=>
  have hm:e.1.2.2.1[k] ∈e.2\/e.1.2.2.1[k] ∈e.1.2.2.1:= .inr (Ag hk);have hT:=j7f h hm;have hT2:=r9i (u1u e.1 e.1.2.2.1[k]) e.2 (o0s h hm).few (by omega);simp only[Ad,true_and];cases s8i e.1 with
  |true=>rfl|false=>
   simp only[Aa,Br,Bk,Bl,f1,y8h hk,Ad,zTn,y9a (t:=u0y) hk,hT,hT2,zOb];rfl
theorem j3z:emp.size<=100:=by decide
theorem s7g(r:r21):(u0u r).1.size<=20000:=by
 cases h:u88 r with
 |false=>unfold u0u;rw[h];exact A9 j3z (by omega)|true=>
  have hR:=d48.mp h;rw[t8e hR];have:=r0h hR;show(q7e (q7a r)).size<=20000;rw[o8r];omega
def o1u(b:u0m):r21:=(4,u3i,emp,false,b)
theorem p77{b:u0m}(h:tinyB b):tinyR (o1u b):=⟨s59,j3z,h⟩
theorem o7r(d:u0j)(hd:c2e.wt d<=10000000):s5g d=some (orD d (j1y d)):=by
 have h1:=o7w d (by omega);have h2:=t7i (o1u (p8j (u0d d)).1) (p77 (j4i _)).wt;have h3:=u9k d (by unfold u0i;omega);rw[o3t];unfold q54;simp only[h1,zOb];have h2:u45 (4,(0,0,0,0, [], [],false,(⟨#[]⟩:Hs)),(⟨#[]⟩:Hs),false,(p8j (u0d d)).1)=_:=h2;simp only[h2,h3,zOb];unfold j1y;cases hp:t1a (u0d d) with
 |none=>
  have e:(p8j (u0d d)).2=false:=by unfold p8j;rw[hp]
  simp only[e,Bh,Ad,zOb];rfl
 |some b=>
  have e:p8j (u0d d)=(b,true):=by unfold p8j;rw[hp]
  simp only[e,Ap,Aa,zOb];have e4:o1u b=(4,u3i,emp,false,b):=rfl;rw[e4];cases ht:(u0u (4,u3i,emp,false,b)).2 with
  |false=>simp only[Bh,Ad,Br,Bk];rfl|true=>
   have h5:=o5i (d:=d) (l:= [(u0u (4,u3i,emp,false,b)).1]) hd (by simp) (fun t h=>by
    rw[Ax.mp h];have:=s7g (4,u3i,emp,false,b);omega)
   simp only[Ap,Aa,Bl,h5,zOb]
theorem d0w{d z:u0j}(h:j1y d=some z):u2k z=true:=by
 unfold j1y at h;split at h
 .cases h
 .split at h
  .exact(p63 h).2.1
  .cases h
abbrev d2z:=Hu u0e×(Hu Int×Hu Hs)
theorem o08(s:u1a)(z0:d2z)(r:r21)(hd:c2e.wt s.2<=10000000)(hr:tinyR r):s08 ((s,z0),r)=some ((u9v s.2 r).isSome,(s.1,(u9v s.2 r).getD s.2),z0):=by
 have h1:=t7i r hr.wt;have hl:=s7g r;have h2:=r5c s.2 (u0u r).1 hd (by omega);have h3:=o7r s.2 hd;rw[o69];unfold p0j u9v;simp only[h1,zOb];cases ht:(u0u r).2 with
 |false=>simp only[Bh,Ad,Br,Bk];rfl|true=>
  simp only[Ap,Aa,Bl,h2,zOb];cases ha:append_ s.2 (u0u r).1 with
  |some y=>rfl|none=>
   simp only[orD,Bh,Ad,h3,zOb];cases hz:j1y s.2 with
   |none=>rfl|some z=>
    have h4:=r5c z (u0u r).1 (u60 (d0w hz)) (by omega);simp only[orD,Ap,Aa,h4,zOb];cases hq:append_ z (u0u r).1<;>rfl
theorem s3w:tinyR j1w:=⟨s59,by decide,t5z⟩
theorem p8a{e:u3g}(h:EngR e)(id:Int):tinyR (u4s e id).2.1:=by
 unfold u4s;split
 .exact s3w
 .split
  .rename_i c1 c0;obtain⟨hn,_,_,_⟩:=q6d c0;obtain⟨j,hj,e1,e2,e3⟩:=u16 hn;rw[e2];exact⟨(h.ot (Ag hj)).like rfl rfl j3z,j3z,t5z⟩
  .exact s3w
theorem o8g{e:u3g}(h:EngR e)(id:Int)(n:Hs):tinyR (s3x e id n).2.1:=by
 unfold s3x;split
 .exact s3w
 .rename_i hn;split
  .exact s3w
  .rename_i hk;split
   .exact s3w
   .split
    .obtain⟨j,hj,e1,e2,e3⟩:=u16 hn;rw[e2];have hk:u81 n=true:=by simpa using hk
     have:=(u2z hk).2;exact⟨(h.ot (Ag hj)).like rfl rfl (by show n.size<=100;omega),j3z,t5z⟩
    .exact s3w
theorem j36{e:u3g}(n:Hs)(hn:n.size<=100)(y:Bool):tinyR (p0z e n y).2.1:=by
 unfold p0z;split
 .exact s3w
 .split
  .exact s3w
  .split
   .exact⟨s59,hn,t5z⟩
   .exact⟨s59,hn,t5z⟩
theorem o7g{s:u1a}(h:EngR s.1)(hd:u2k s.2=true)(z0:d2z)(id:Int):s23 ((s,z0),id)=some ((u27 s id).2,(u27 s id).1,z0):=by
 have ho:=h.olen;have h1:=j5s h id;have h2:=o08 s z0 (u4s s.1 id).2.1 (u60 hd) (p8a h id);have h3:u0s s.1=some s.1:=t13 s.1.1 s.1.2 h.fewB h.fewO;have hO:u1m (s.1,id)=some (leaveE s.1 id):=r9e s.1.1 s.1.2 id h.fewB (by omega);rw[o0i];unfold q1r u27;simp only[h1,zOb];by_cases c:(u4s s.1 id).2.2=0
 .simp only[c,Ae,Ad,Bl,h2,zOb];cases u9v s.2 (u4s s.1 id).2.1 with
  |none=>simp only[Option.isSome_none,Bh,Ad,h3,hO,zOb];rfl|some d=>rfl
 .simp only[c,Ah,Aa,Bk]
theorem o4a{s:u1a}(h:EngR s.1)(hd:u2k s.2=true)(z0:d2z)(id:Int){n:Hs}(hn:n.size<=1048576):s57 ((s,z0),id,n)=some ((r4o s id n).2,(r4o s id n).1,z0):=by
 have ho:=h.olen;have h1:=j2r h id hn;have h2:=o08 s z0 (s3x s.1 id n).2.1 (u60 hd) (o8g h id n);have h3:u0s s.1=some s.1:=t13 s.1.1 s.1.2 h.fewB h.fewO;have hO:u1m (s.1,id)=some (leaveE s.1 id):=r9e s.1.1 s.1.2 id h.fewB (by omega);rw[p6w];unfold r65 r4o;simp only[h1,zOb];by_cases c:(s3x s.1 id n).2.2=0
 .simp only[c,Ae,Ad,Bl,h2,zOb];cases u9v s.2 (s3x s.1 id n).2.1 with
  |none=>simp only[Option.isSome_none,Bh,Ad,h3,hO,zOb];rfl|some d=>rfl
 .simp only[c,Ah,Aa,Bk]
theorem d55{e:u3g}{n:Hs}{y:Bool}(c:(p0z e n y).2.2≠0):(p0z e n y).1=e:=by
 unfold p0z at c⊢;split
 .rfl
 .split
  .rfl
  .rename_i h1 h2;rw[Ao h1,Ao h2]at c;split at c<;>exact absurd rfl c
theorem o7h{s:u1a}(h:EngR s.1)(hd:u2k s.2=true)(z0:d2z){n:Hs}(hn:n.size<=100)(y:Bool):t0l ((s,z0),n,y)=some ((t1r s n y).2,(t1r s n y).1,z0):=by
 have h1:=o9a h n y;have h2:=o08 s z0 (p0z s.1 n y).2.1 (u60 hd) (j36 n hn y);rw[o0j];unfold q1s t1r;simp only[h1,zOb];by_cases c:(p0z s.1 n y).2.2=0
 .simp only[c,Ae,Ad,Bl,h2,zOb];cases u9v s.2 (p0z s.1 n y).2.1 with
  |none=>rfl|some d=>rfl
 .simp only[c,Ah,Aa,Bk,d55 c]
theorem p5v{s:u1a}(h:EngR s.1)(hd:c2e.wt s.2<=10000000):s7e s=some s:=by
 have h1:u0s s.1=some s.1:=t13 s.1.1 s.1.2 h.fewB h.fewO;have h2:=u9k s.2 (by unfold u0i;omega);rw[o68];unfold p0i;simp only[h1,h2,zOb]
theorem d2v{s:u1a}(h:EngR s.1)(hd:u2k s.2=true):u9z s=some (j7r s):=by
 have h1:=p5v h (u60 hd);have h2:=o7r s.2 (u60 hd);rw[o3a];unfold q5k j7r;simp only[h1,h2,zOb];cases j1y s.2<;>rfl
def PQR:Hu Hs:= [⟨#[112]⟩,⟨#[113]⟩,⟨#[114]⟩]
def RN(e:u3g):Prop:= ∀x∈e.1.2.2.1,x.2.2.2.2.2.2.2∈PQR
structure SttN(k:Nat)(s:u1a):Prop extends Stt k s where
 rn:RN s.1
end Go.Proofs.YtkphhjdbdnoekaaGreatDoor.Ab
