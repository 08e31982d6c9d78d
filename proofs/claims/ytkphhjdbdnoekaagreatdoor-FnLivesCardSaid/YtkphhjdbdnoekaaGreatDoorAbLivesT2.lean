import Derived.Test.YtkphhjdbdnoekaaGreatDoorAbLivesT1
import Derived.Test.YtkphhjdbdnoekaaGreatDoorAbK2
import Derived.Test.YtkphhjdbdnoekaaGreatDoorAbF4
import Derived.Test.YtkphhjdbdnoekaaGreatDoorAbS2
import Derived.Test.YtkphhjdbdnoekaaGreatDoorAbS4
import Derived.Test.YtkphhjdbdnoekaaGreatDoorAbS6
namespace Go.Proofs.YtkphhjdbdnoekaaGreatDoor.Ab
open Go Go.IntKind
set_option linter.unusedVariables false
set_option linter.unusedSimpArgs false
set_option linter.unnecessarySimpa false
set_option linter.unusedSectionVars false
def u0p (t:Hs) (at_:Int):Hs×Int×Bool:=
 if(u0x t at_).2.2=true/\(u0x t at_).1<=20000/\(u0x t at_).1<=(t.size:Int) - (u0x t at_).2.1 then
  (t.extract (u0x t at_).2.1.toNat ((u0x t at_).2.1+(u0x t at_).1).toNat,(u0x t at_).2.1+(u0x t at_).1,true)
 else(emp,0,false)
theorem q6x {t:Hs} {at_:Int} (h:(u0p t at_).2.2=true):0<=(u0p t at_).2.1/\(u0p t at_).2.1<=t.size:=by
 unfold u0p at h ⊢;split at h
 .rename_i hc;rw[Al hc];have:=s3o hc.1;simp only;omega
 .cases h
theorem o8e (t:Hs) (at_:Int) (ht:t.size<=u0i):
 (((bif (!(u0x t at_).2.2) then(some true) else(bif (decide ((u0x t at_).1 >(20000:Int))) then(some true) else(some (decide ((u0x t at_).1 >(i64.wrap ((t.size:Int) - (u0x t at_).2.1))))))):Ht Bool).bind fun j2=>
  (bif j2 then(some ((⟨#[]⟩:Hs),((0:Int),false))) else(bif (decide (0<=(u0x t at_).2.1)&&decide ((u0x t at_).2.1<=(i64.wrap ((u0x t at_).2.1+(u0x t at_).1)))&&decide ((i64.wrap ((u0x t at_).2.1+(u0x t at_).1))<=(t.size:Int))) then
   (some ((t.extract ((u0x t at_).2.1).toNat ((i64.wrap ((u0x t at_).2.1+(u0x t at_).1))).toNat),((i64.wrap ((u0x t at_).2.1+(u0x t at_).1)),true))) else none)))=some (u0p t at_):=by
 unfold u0i at ht;unfold u0p;cases ho:(u0x t at_).2.2 with
 | false=>rfl | true=>
  have hk:=s3o ho;rw[y5f (n:=(t.size:Int) - (u0x t at_).2.1) (by omega) (by omega),y5f (n:=(u0x t at_).2.1+(u0x t at_).1) (by omega) (by omega)];by_cases h1:(u0x t at_).1 >20000
  .rw[Ao (by omega),Bb h1];rfl
  .rw[A7 h1];by_cases h2:(u0x t at_).1 >(t.size:Int) - (u0x t at_).2.1
   .rw[Ao (by omega),Bb h2];rfl
   .rw[Al ⟨rfl,by omega,by omega⟩,A7 h2];simp only[Ap,Aa,zOb];rw[Bb (show 0<=(u0x t at_).2.1 by omega),Bb (show(u0x t at_).2.1<=(u0x t at_).2.1+(u0x t at_).1 by omega),Bb (show(u0x t at_).2.1+(u0x t at_).1<=(t.size:Int) by omega)];rfl
theorem q8f (t:Hs) (at_:Int) (ht:t.size<=u0i):s2w (t,at_)=some (u0p t at_):=by
 rw[p9r];unfold q08;simp only[p6w t at_ ht,zOb];exact o8e t at_ ht
theorem q8e (t:Hs) (at_:Int) (ht:t.size<=u0i):s2r (t,at_)=some (u0p t at_):=by
 rw[p8y];unfold q0h;simp only[p6v t at_ ht,zOb];exact o8e t at_ ht
def p8m (t:Hs):Int:=((t.data.toList.getD 0 0).toNat:Int)
theorem o9b (t:Hs):0<=p8m t/\p8m t<256:=by
 unfold p8m;have:(t.data.toList.getD 0 0).toNat<256:=Fw _;omega
def u43 (d:u0j) (s:Int):Int:=p8m (u0k d s).1
theorem o76 {d:u0j} {s:Int} (h:(u0k d s).2=false):(u0k d s).1=emp:=by
 unfold u0k at h ⊢;split at h
 .cases h
 .rename_i hc;rw[Ao hc]
theorem o7u (r:Hs×Bool) (h:r.2=false->r.1=emp):
 (((bif (!r.2) then(some true) else(some (z7q r.1 (⟨#[]⟩:Hs)))):Ht Bool).bind fun j2=>(bif j2 then(some (0:Int)) else(bif (y4v (0:Int) r.1.size) then(some (i64.wrap ((r.1.data.toList.getD ((0:Int)).toNat 0).toNat:Int))) else none)))=some (p8m r.1):=by
 obtain⟨t,o⟩:=r;cases o with
 | false=>
  have:t=emp:=h rfl;subst this;rfl
 | true=>
  simp only[Ap,Aa,zOb];by_cases he:t=emp
  .subst he;have:z7q emp (⟨#[]⟩:Hs)=true:=y6w emp;simp only[this,Ad];rfl
  .have h1:z7q t (⟨#[]⟩:Hs)=false:=by
    rw[←Ey,y7r];exact he
   have h2:t.size≠0:=by
    intro hz;apply he;apply Gf;apply Fi;exact hz
   have h3:y4v (0:Int) t.size=true:=by simp[y4v];omega
   have hb:(t.data.toList.getD 0 0).toNat<256:=Fw _;simp only[h1,Aa,h3,Ad,Ho];rw[y8q (by omega)];rfl
theorem r48 (d:u0j) (s:Int) (hd:c1c.wt d<=u0i):t5m (d,s)=some (u43 d s):=by
 rw[p9b];unfold q0t;simp only[s95 d s hd,zOb];exact o7u _ (fun h=>o76 h)
theorem q54 (d:u0j) (s:Int) (hd:c1c.wt d<=u0i):s03 (d,s)=some (u43 d s):=by
 rw[o6l];unfold q9s;simp only[s96 d s hd,zOb];exact o7u _ (fun h=>o76 h)
def u0n (d:u0j):Int:=Int.tmod (u43 d 0) 2
theorem t7u (d:u0j):u0n d=0\/u0n d=1:=by
 have:=o9b (u0k d 0).1;unfold u0n u43;have e:=Int.tmod_eq_emod_of_nonneg (b:=2) this.1;rw[e];omega
theorem s9d (d:u0j) (hd:c1c.wt d<=u0i):t2m d=some (u0n d):=by
 rw[o1k];unfold q4f;simp only[r48 d 0 hd,zOb];rfl
theorem s9e (d:u0j) (hd:c1c.wt d<=u0i):t2u d=some (u0n d):=by
 rw[o2p];unfold q48;simp only[q54 d 0 hd,zOb];rfl
def j0q (a:Int):Bool:=decide (a=0) || decide (a=1)
def u0d (a:Int):Int:=if j0q a then 1+a*48 else 0
theorem d2b {a:Int} :j0q a=true↔a=0\/a=1:=by simp[j0q]
theorem s3i (a:Int):0<=u0d a/\u0d a<=49:=by
 unfold u0d;split
 .rename_i h;have:=d2b.mp h;omega
 .omega
theorem p1o (a:Int):s4u a=some (j0q a):=by
 rw[o9x];unfold p2w j0q;cases decide (a=0)<;>rfl
theorem q7p (a:Int):u0q (a,0,1)=some (j0q a):=by
 rw[s6q,r49];congr 1;rw[Cd,d2b,decide_eq_true_iff];omega
theorem s54 (a:Int):t0f a=some (u0d a):=by
 rw[p8o];unfold r98 u0d;simp only[p1o,zOb];cases h:j0q a with
 | false=>rfl | true=>
  have:=d2b.mp h;simp only[Ap,Aa,Bl];rw[y5f (n:=a*48) (by omega) (by omega),y5f (by omega) (by omega)]
theorem s55 (a:Int):t0k a=some (u0d a):=by
 rw[p9j];unfold q00 u0d;simp only[q7p,zOb];cases h:j0q a with
 | false=>rfl | true=>
  have:=d2b.mp h;simp only[Ap,Aa,Bl];rw[y5f (n:=a*48) (by omega) (by omega),y5f (by omega) (by omega)]
def u0z (d:u0j) (a:Int):Int:=if j0q a then u43 d (u0d a) else 0
theorem r6u (d:u0j) (a:Int):0<=u0z d a/\u0z d a<256:=by
 unfold u0z;split
 .exact o9b _
 .omega
theorem s7a (d:u0j) (a:Int) (hd:c1c.wt d<=u0i):t5s (d,a)=some (u0z d a):=by
 rw[o49];unfold q8h u0z;simp only[p1o,s54,r48 d _ hd,zOb];cases j0q a<;>rfl
theorem s7b (d:u0j) (a:Int) (hd:c1c.wt d<=u0i):t5u (d,a)=some (u0z d a):=by
 rw[o50];unfold q86 u0z;simp only[q7p,s55,q54 d _ hd,zOb];cases j0q a<;>rfl
def u89 (t:Hs):Nat->Int->Hu Hs->Hu Hs×Int×Bool
 | 0,at_,acc=>(acc,at_,true) | m+1,at_,acc=>if(u0p t at_).2.2&& !z7q (u0p t at_).1 emp then u89 t m (u0p t at_).2.1 (acc++ [(u0p t at_).1]) else([],0,false)
def u0c (d:u0j) (a:Int):Hu Hs×Int×Bool:=
 if j0q a&&(t1h d (u0d a+1) 47).2 then u89 (t1h d (u0d a+1) 47).1 (u0z d a).toNat 0 [] else([],0,false)
theorem o8d (d:u0j) (from_:Int):∀(m i:Nat) (acc:Hs),(q76 d from_ m i acc).1.size<=acc.size+m*c1c.wt d
 | 0,i,acc=>by simp[q76]
 | m+1,i,acc=>by
  unfold q76;split
  .have h1:=o8d d from_ m (i+1) (acc++(u0k d (from_+(i:Int))).1);have h2:=q6w d (from_+(i:Int));rw[Af] at h1;have:(m+1)*c1c.wt d=m*c1c.wt d+c1c.wt d:=C7 _ _;omega
  .show 0<=_;omega
theorem q6z (d:u0j) (from_ n:Int):(t1h d from_ n).1.size<=100*c1c.wt d:=by
 unfold t1h;split
 .have h:=o8d d from_ n.toNat 0 emp;have h2:emp.size=0:=rfl;have h3:n.toNat*c1c.wt d<=100*c1c.wt d:=Ei (by omega) (Au _);omega
 .show 0<=_;omega
theorem r83 (d:u0j) (a:Int) (hd:c1c.wt d<=1073741824):t2n (d,a)=some (u0c d a):=by
 have hb:c1c.wt d<=u0i:=by unfold u0i;omega
 have hf:=s3i a;have hz:(t1h d (u0d a+1) 47).1.size<=u0i:=by have:=q6z d (u0d a+1) 47;unfold u0i;omega
 have hc:=r6u d a;rw[o1v];unfold q4q u0c;simp only[s54,zOb];rw[y5f (n:=u0d a+1) (by omega) (by omega)];simp only[o0y d (u0d a+1) 47 hd (by omega) (by omega),p1o,zOb];generalize t1h d (u0d a+1) 47=s at hz;cases hs:s.2 with
 | false=>cases j0q a<;>rfl
 | true=>
  cases ha:j0q a with
  | false=>rfl | true=>
   have L:=q4a (fun x=>(t9i x).bind fun r=>match r with
    | .inl o=>some (o.1,o.2,true) | .inr z=>some z) (u0z d a).toNat (fun(p:Hu Hs×Int) i=>(a,d,s.1,p.1,p.2,i)) (fun i p=>u89 s.1 ((u0z d a).toNat - i) p.2 p.1) (fun i p=>p.1.length<=i)
    (fun p _=>by
     rw[r79];simp only[t8q,s7a d a hb,zOb];rw[A7 (by omega)];simp only[Aa,zOb,Dw,u89])
    (fun i p hi hp=>by
     have e:(u0z d a).toNat - i=((u0z d a).toNat - (i+1))+1:=by omega
     rw[r79];simp only[t8q,s7a d a hb,zOb];rw[Bb (by omega),e];simp only[Ad,q8e s.1 p.2 hz,zOb,u89,j95];cases hr:(u0p s.1 p.2).2.2 with
     | false=>left;rfl | true=>
      cases hq:z7q (u0p s.1 p.2).1 emp with
      | true=>left;rfl | false=>
       right;refine⟨(p.1++ [(u0p s.1 p.2).1],(u0p s.1 p.2).2.1),by simp;omega,by simp,?_⟩;simp only[Ap,Aa,zOb,Aw,u0w (show p.1.length+1<=1099511627776 by omega),Ad];rw[y7x (by omega)]) 0 ([],0) (by omega) (by simp)
   simp only[Ap,Aa,zOb,Dt,Bl];exact L
theorem r84 (d:u0j) (a:Int) (hd:c1c.wt d<=1073741824):t2v (d,a)=some (u0c d a):=by
 have hb:c1c.wt d<=u0i:=by unfold u0i;omega
 have hf:=s3i a;have hz:(t1h d (u0d a+1) 47).1.size<=u0i:=by have:=q6z d (u0d a+1) 47;unfold u0i;omega
 have hc:=r6u d a;rw[o2w];unfold q5f u0c;simp only[q7p,s55,zOb];rw[y5f (n:=u0d a+1) (by omega) (by omega)];simp only[o0z d (u0d a+1) 47 hd (by omega) (by omega),zOb];generalize t1h d (u0d a+1) 47=s at hz;cases hs:s.2 with
 | false=>cases j0q a<;>rfl
 | true=>
  cases ha:j0q a with
  | false=>rfl | true=>
   have L:=q4a (fun x=>(t6w x).bind fun r=>match r with
    | .inl o=>some (o.1,o.2,true) | .inr z=>some z) (u0z d a).toNat (fun(p:Hu Hs×Int) i=>(a,d, [],s.1,p.1,p.2,i)) (fun i p=>u89 s.1 ((u0z d a).toNat - i) p.2 p.1) (fun i p=>p.1.length<=i)
    (fun p _=>by
     rw[r4m];simp only[t6m,s7b d a hb,zOb];rw[A7 (by omega)];simp only[Aa,zOb,Dw,u89])
    (fun i p hi hp=>by
     have e:(u0z d a).toNat - i=((u0z d a).toNat - (i+1))+1:=by omega
     rw[r4m];simp only[t6m,s7b d a hb,zOb];rw[Bb (by omega),e];simp only[Ad,q8f s.1 p.2 hz,zOb,u89,j95];cases hr:(u0p s.1 p.2).2.2 with
     | false=>left;rfl | true=>
      cases hq:z7q (u0p s.1 p.2).1 emp with
      | true=>left;rfl | false=>
       right;refine⟨(p.1++ [(u0p s.1 p.2).1],(u0p s.1 p.2).2.1),by simp;omega,by simp,?_⟩;simp only[Ap,Aa,zOb,Aw,u0w (show p.1.length+1<=1099511627776 by omega),Ad];rw[y7x (by omega)]) 0 ([],0) (by omega) (by simp)
   simp only[Ap,Aa,zOb,Dt,Bl];exact L
def u0h (d:u0j):Hu Hs:=(u0c d (u0n d)).1
theorem r80 (d:u0j) (hd:c1c.wt d<=1073741824):t77 d=some (u0h d):=by
 rw[o1r];unfold q4m;simp only[s9d d (show c1c.wt d<=u0i by unfold u0i;omega),r83 d _ hd,zOb];rfl
theorem o7m (t:Hs):∀(m:Nat) (at_:Int) (acc:Hu Hs),(u89 t m at_ acc).1.length<=acc.length+m
 | 0,at_,acc=>by simp[u89]
 | m+1,at_,acc=>by
  unfold u89;split
  .have:=o7m t m (u0p t at_).2.1 (acc++ [(u0p t at_).1]);simp at this;omega
  .simp
theorem q6v (d:u0j) (a:Int):(u0c d a).1.length<256:=by
 unfold u0c;split
 .have h:=o7m (t1h d (u0d a+1) 47).1 (u0z d a).toNat 0 [];have:=r6u d a;simp at h;omega
 .simp
def d23 (a b:Hu Hs):Bool:=decide (a=b)
theorem o79 {a b:Hu Hs} (h:a.length=b.length):(bif (a.zip b).any (fun p=> !z7q p.1 p.2) then false else true)=decide (a=b):=by
 induction a generalizing b with
 | nil=>
  cases b with
  | nil=>rfl | cons y b=>simp at h
 | cons x a ih=>
  cases b with
  | nil=>simp at h | cons y b=>
   have h' :a.length=b.length:=by simpa using h
   have:=ih h';simp only[List.zip_cons_cons,Gd,List.cons.injEq];by_cases e:x=y
   .subst e;simp only[y6w,Ap,Ci,true_and];exact this
   .have:z7q x y=false:=by rw[←Ey,y7r];exact e
    simp[this,e]
theorem j87 (a b:Hu Hs) (ha:a.length<=u0i):u85 (a,b)=some (d23 a b):=by
 unfold u0i at ha;rw[s9k];unfold t60 d23;simp only;by_cases h:a.length=b.length
 .have hz:(a.zip b).length=a.length:=by simp[h]
  have L:=s5c u3t (a.zip b) (fun i=>(a,b,(a.length:Int),i)) (fun p=> !z7q p.1 p.2) (.inr false) (.inl ())
   (by rw[t3h,hz];simp only[u3q,u0b,Am,Ah,Aa])
   (fun i hi=>by
    have hi1:i<a.length:=by omega
    have hi2:i<b.length:=by omega
    rw[t3h];simp only[u3q,u0b,hi1,Ae,Ad,y8h hi1,y8h hi2,zTn,y9a (t:=Ty.str) hi1,y9a (t:=Ty.str) hi2,List.getElem_zip];rw[y7x (by omega)])
  have e1:decide ((a.length:Int)=(b.length:Int))=true:=by simp[h]
  simp only[e1,Ap,Aa,L,zOb];rw[←o79 h];cases (a.zip b).any fun p=> !z7q p.1 p.2<;>rfl
 .have e1:decide ((a.length:Int)=(b.length:Int))=false:=by simp;omega
  have e2:decide (a=b)=false:=by
   rw[Bu];intro e;exact h (by rw[e])
  rw[e1,e2];rfl
def o8b (a b:u0j):Bool:=d23 (u0h a) (u0h b)
theorem o4z (a b:u0j) (ha:c1c.wt a<=1073741824) (hb:c1c.wt b<=1073741824):s8a (a,b)=some (o8b a b):=by
 rw[p81];unfold q0k;have h1:(u0h a).length<=u0i:=by have:=q6v a (u0n a);unfold u0h u0i;omega
 simp only[r80 a ha,r80 b hb,j87 _ _ h1,zOb];rfl
def u1u (d:u0j):Bool:=decide (1<=d.1.length/\d.1.length<=100)&&decide (d.2.length<=60)&&d.1.all (fun s=>decide (s.size=64))&&d.2.all (fun p=>r8x p.1 0 ((d.1.length:Int) - 1)&&decide (p.2.size=64))
theorem o89 {α:Type} (l:Hu α) (p:α->Bool):l.any (fun x=> !p x)= !l.all p:=by
 induction l with
 | nil=>rfl | cons x l ih=>simp only[Gd,Gc,ih,Bool.not_and]
theorem s94 (d:u0j) (hd:c1c.wt d<=u0i):t4a d=some (u1u d):=by
 have h1:d.1.length<=u0i:=A9 t48 hd;have h2:d.2.length<=u0i:=A9 t7w hd;unfold u0i at h1 h2
 have L1:=s5c s35 d.1 (fun i=>(d,i)) (fun s=> !decide (s.size=64)) (.inr false) (.inl d)
  (by rw[q7c];simp only[s3y,u0b,Am,Ah,Aa])
  (fun i hi=>by
   rw[q7c];simp only[s3y,u0b,hi,Ae,Ad,y8h hi,zTn,y9a (t:=Ty.str) hi];rw[y7x (by omega)];have:decide (((d.1[i]).size:Int)=(64:Int))=decide ((d.1[i]).size=64):=by simp only[Cu];omega
   rw[this])
 have L2:=s5c s36 d.2 (fun i=>(d,i)) (fun p=> !(r8x p.1 0 ((d.1.length:Int) - 1)&&decide (p.2.size=64))) (.inr false) (.inl ())
  (by rw[q7d];simp only[s3z,u0b,Am,Ah,Aa])
  (fun i hi=>by
   rw[q7d];simp only[s3z,u0b,hi,Ae,Ad,y8h hi,zTn,y9a (t:=o7j) hi,s6q,zOb];rw[y7x (by omega),y5f (n:=(d.1.length:Int) - 1) (by omega) (by omega)];have:decide (((d.2[i]).2.size:Int)=(64:Int))=decide ((d.2[i]).2.size=64):=by simp only[Cu];omega
   rw[this];cases r8x (d.2[i]).1 0 ((d.1.length:Int) - 1)<;>rfl)
 rw[o94];unfold p23 u1u;simp only[s6q,r49 (a:=(d.1.length:Int)),L1,zOb];have e1:decide ((1:Int)<=(d.1.length:Int)/\(d.1.length:Int)<=100)=decide (1<=d.1.length/\d.1.length<=100):=by simp only[Cu];omega
 have e2:decide ((d.2.length:Int) >60)= !decide (d.2.length<=60):=by
  rw[←decide_not,Cu];omega
 rw[e1,e2,o89];cases decide (1<=d.1.length/\d.1.length<=100) with
 | false=>rfl | true=>
  cases decide (d.2.length<=60) with
  | false=>rfl | true=>
   cases d.1.all (fun s=>decide (s.size=64)) with
   | false=>rfl | true=>
    simp only[Ap,Aa,zOb,L2,o89];cases d.2.all _<;>rfl
theorem r8z (d:u0j) (hd:c1c.wt d<=u0i):t9w d=some (u1u d):=by
 have h1:d.1.length<=u0i:=A9 t48 hd;have h2:d.2.length<=u0i:=A9 t7w hd;unfold u0i at h1 h2
 have L1:=s5c s32 d.1 (fun i=>(d,d.1,(d.1.length:Int),i)) (fun s=> !decide (s.size=64)) (.inr false) (.inl d)
  (by rw[q66];simp only[s3s,u0b,Am,Ah,Aa])
  (fun i hi=>by
   rw[q66];simp only[s3s,u0b,hi,Ae,Ad,y8h hi,zTn,y9a (t:=Ty.str) hi];rw[y7x (by omega)];have:decide (((d.1[i]).size:Int)=(64:Int))=decide ((d.1[i]).size=64):=by simp only[Cu];omega
   rw[this])
 have L2:=s5c s33 d.2 (fun i=>(d,d.2,(d.2.length:Int),i)) (fun p=> !(r8x p.1 0 ((d.1.length:Int) - 1)&&decide (p.2.size=64))) (.inr false) (.inl d)
  (by rw[q67];simp only[s3t,u0b,Am,Ah,Aa])
  (fun i hi=>by
   rw[q67];simp only[s3t,u0b,hi,Ae,Ad,y8h hi,zTn,y9a (t:=o7j) hi,s49,zOb];rw[y7x (by omega),y5f (n:=(d.1.length:Int) - 1) (by omega) (by omega)];have:decide (((d.2[i]).2.size:Int)=(64:Int))=decide ((d.2[i]).2.size=64):=by simp only[Cu];omega
   rw[this];cases r8x (d.2[i]).1 0 ((d.1.length:Int) - 1)<;>rfl)
 rw[o9l];unfold p2j u1u;simp only[L1,zOb];have e1:decide ((1:Int)<=(d.1.length:Int)/\(d.1.length:Int)<=100)=decide (1<=d.1.length/\d.1.length<=100):=by simp only[Cu];omega
 have e2:decide ((d.2.length:Int)<=60)=decide (d.2.length<=60):=by rw[Cu];omega
 rw[o89];cases d.1.all (fun s=>decide (s.size=64)) with
 | false=>simp | true=>
  simp only[Ap,Aa,zOb,L2,o89];cases d.2.all (fun p=>r8x p.1 0 ((d.1.length:Int) - 1)&&decide (p.2.size=64)) with
  | false=>simp | true=>
   simp only[Ap,Aa,zOb,s49,r49 (a:=(d.1.length:Int)),e1,e2];cases decide (1<=d.1.length/\d.1.length<=100)<;>cases decide (d.2.length<=60)<;>rfl
def u2s (d:u0j):Bool:=u1u d&&decide (d.1.length=97)&&decide (d.2.length=0)&&(u0c d 0).2.2&&(u0c d 1).2.2
theorem p5g (d:u0j) (hd:c1c.wt d<=1073741824):s7p d=some (u2s d):=by
 have hb:c1c.wt d<=u0i:=by unfold u0i;omega
 rw[j3b];unfold p7j u2s;have hs:u9p ()=some 97:=by rw[s5o];rfl
 simp only[s94 d hb,hs,r84 d _ hd,zOb];have e1:decide ((d.1.length:Int)=97)=decide (d.1.length=97):=by rw[Cu];omega
 have e2:decide ((d.2.length:Int) >0)= !decide (d.2.length=0):=by rw[←decide_not,Cu];omega
 rw[e1,e2];cases u1u d<;>cases decide (d.1.length=97)<;>cases decide (d.2.length=0)<;>cases (u0c d 0).2.2<;>cases (u0c d 1).2.2<;>rfl
theorem p5f (d:u0j) (hd:c1c.wt d<=1073741824):s7m d=some (u2s d):=by
 have hb:c1c.wt d<=u0i:=by unfold u0i;omega
 rw[j2t];unfold p66 u2s;simp only[r8z d hb,r83 d _ hd,zOb];have e1:decide ((d.1.length:Int)=97)=decide (d.1.length=97):=by rw[Cu];omega
 have e2:decide ((d.2.length:Int)=0)=decide (d.2.length=0):=by rw[Cu];omega
 rw[e1,e2];cases u1u d<;>cases decide (d.1.length=97)<;>cases decide (d.2.length=0)<;>cases (u0c d 0).2.2<;>cases (u0c d 1).2.2<;>rfl
theorem j5p (d:u0j):c1c.wt d=(d.1.length+(d.1.map ByteArray.size).sum)+(d.2.length+(d.2.map fun p=>0+p.2.size).sum):=rfl
theorem o8f {α:Type} {l:Hu α} {f:α->Nat} {k:Nat} (h:∀x∈l,f x<=k):(l.map f).sum<=l.length*k:=by
 induction l with
 | nil=>simp | cons x l ih=>
  have h1:=h x (C9 ..);have h2:=ih (fun y hy=>h y (Bm _ hy));simp only[C8,Ge,Bc,C7];omega
theorem o7r {d:u0j} :u1u d=true↔(1<=d.1.length/\d.1.length<=100)/\d.2.length<=60/\(∀s∈d.1,s.size=64)/\ ∀p∈d.2,(0<=p.1/\p.1<(d.1.length:Int))/\p.2.size=64:=by
 unfold u1u;simp only[Ai,Ar,Bg,r8x,and_assoc];constructor
 .rintro⟨a,b,c,e,f⟩
  exact⟨a,b,c,e,fun p hp=>by obtain⟨x,y,z⟩:=f p hp;exact⟨x,by omega,z⟩⟩
 .rintro⟨a,b,c,e,f⟩
  exact⟨a,b,c,e,fun p hp=>by obtain⟨x,y,z⟩:=f p hp;exact⟨x,by omega,z⟩⟩
theorem u2q {d:u0j} (h:u1u d=true):c1c.wt d<=11000:=by
 obtain⟨h1,h2,h3,h4⟩:=o7r.mp h;have a1:=o8f (l:=d.1) (f:=ByteArray.size) (k:=64) (fun s hs=>by rw[h3 s hs];exact Au _);have a2:=o8f (l:=d.2) (f:=fun p=>0+p.2.size) (k:=64) (fun p hp=>by rw[(h4 p hp).2];exact Au _);rw[j5p];omega
theorem d5z (d:u0j) (p:Int×Hs):c1c.wt (d.1,d.2++ [p])=c1c.wt d+1+p.2.size:=by
 rw[j5p,j5p];simp;omega
theorem u9k (d:u0j) (hd:c1c.wt d<=u0i):u0y d=some d:=by
 have h1:d.1.length<=u0i:=A9 t48 hd;have h2:d.2.length<=u0i:=A9 t7w hd;unfold u0i at h1 h2;rw[o6k];unfold q9r;have a1:Nat.ble (([] :Hu Hs).length+d.1.length) z7z=true:=u0w (by simp;omega);have a2:Nat.ble (([] :Hu s5e.den).length+d.2.length) z7z=true:=u0w (by simp;omega);simp only[a1,a2,Ad,Cf]
theorem u9j (d:u0j) (hd:c1c.wt d<=u0i):u06 d=some d:=by
 have h1:d.1.length<=u0i:=A9 t48 hd;have h2:d.2.length<=u0i:=A9 t7w hd;unfold u0i at h1 h2;rw[o2f];unfold q4z;simp only[u0w h1,u0w h2,Ad]
def u6y (d:u0j) (k:Int) (t:Hs):Ht u0j:=if u1u (d.1,d.2++ [(k,t)]) then some (d.1,d.2++ [(k,t)]) else none
def orD (d:u0j):Ht u0j->u0j×Bool
 | some x=>(x,true) | none=>(d,false)
theorem r9b (d:u0j) (k:Int) (t:Hs):u1u (d.1,d.2++ [(k,t)])=(u1u d&&(r8x k 0 ((d.1.length:Int) - 1)&&(decide (t.size=64)&& !decide (60<=d.2.length)))):=by
 rw[Cd];simp only[Ai,Bj,Ar,Bu];rw[o7r,o7r];simp only[Ba,Aw,Ay,Ax,r8x,Ai,Ar];constructor
 .rintro⟨a,b,c,e⟩
  have:=e (k,t) (.inr rfl);exact⟨⟨a,by omega,c,fun p hp=>e p (.inl hp)⟩,⟨this.1.1,by have:=this.1.2;omega⟩,this.2,by omega⟩
 .rintro⟨⟨a,b,c,e⟩,⟨f1,f2⟩,g,h⟩
  refine⟨a,by omega,c,fun p hp=> ?_⟩;rcases hp with hp | rfl
  .exact e p hp
  .exact⟨⟨f1,by show k<(d.1.length:Int);omega⟩,g⟩
theorem p8h (d:u0j) (k:Int) (t:Hs) (hd:c1c.wt d<=1073741824) (ht:t.size<=1073741824):s4s (d,k,t)=some (orD d (u6y d k t)):=by
 have h2:d.2.length<=1073741824:=A9 t7w hd;have a:Nat.ble (d.2.length+([(k,t)] :Hu s5e.den).length) z7z=true:=u0w (by simp;omega);have b:=r8z (d.1,d.2++ [(k,t)]) (by rw[d5z];unfold u0i;simp only;omega);rw[p3w];unfold r2u;simp only[u9j d (by unfold u0i;omega),zOb,a,Ad,b];unfold u6y;cases u1u (d.1,d.2++ [(k,t)])<;>rfl
theorem p8i (d:u0j) (k:Int) (t:Hs) (hd:c1c.wt d<=1073741824) (ht:t.size<=1073741824):t68 (d,k,t)=some (orD d (u6y d k t)):=by
 have h2:d.2.length<=1073741824:=A9 t7w hd;have h1:d.1.length<=1073741824:=A9 t48 hd;have a:Nat.ble (d.2.length+([(k,t)] :Hu s5e.den).length) z7z=true:=u0w (by simp;omega);have w:i64.wrap ((d.1.length:Int) - 1)=(d.1.length:Int) - 1:=y5f (by omega) (by omega);have e1:decide ((t.size:Int)=(64:Int))=decide (t.size=64):=by simp only[Cu];omega
 have e2:decide ((d.2.length:Int)>=(60:Int))=decide (60<=d.2.length):=by simp only[Cu];omega
 rw[p35];unfold r21;simp only[u9k d (by unfold u0i;omega),s94 d (by unfold u0i;omega),zOb,a,Ad,s6q,w,e1,e2];unfold u6y;rw[r9b];cases u1u d<;>cases r8x k 0 ((d.1.length:Int) - 1)<;>cases decide (t.size=64)<;>cases decide (60<=d.2.length)<;>rfl
def p98:Nat->u0j->Nat->Nat->Hs->Ht u0j
 | 0,d,_,_,_=>some d
 | f+1,d,k,at_,t=>if t.size=0 then some d else
  if(u0k d (k:Int)).2=true/\(u0k d (k:Int)).1.size=64 then
   (u6y d (k:Int) ((u0k d (k:Int)).1.extract 0 at_++t.extract 0 (min t.size (64 - at_))++(u0k d (k:Int)).1.extract (at_+min t.size (64 - at_)) 64)).bind fun x=>
    p98 f x (k+1) 0 (t.extract (min t.size (64 - at_)) t.size)
  else none
theorem j09 (f:Nat) (d:u0j) (k at_:Nat) {t:Hs} (h:t.size=0):p98 f d k at_ t=some d:=by
 cases f with
 | zero=>rfl | succ f=>rw[p98,Al h]
theorem t8j {d x:u0j} {k:Int} {t:Hs} (h:u6y d k t=some x):u1u x=true/\x=(d.1,d.2++ [(k,t)]):=by
 unfold u6y at h;split at h
 .rename_i hk;cases h;exact⟨hk,rfl⟩
 .cases h
theorem r35 {t:Hs} :z7q t ⟨#[]⟩=decide (t.size=0):=by
 rw[Cd,y7r,Ar];constructor
 .rintro rfl;rfl
 .intro h;have:t.data= #[] :=by apply Fi;exact h
  cases t;simp at this;rw[this]
theorem d1a:∀(f:Nat) (d0 out jk:u0j) (k at_:Nat) (t:Hs),t.size<f->t.size<=1048576->k<=4000000000 - t.size->at_<64->c1c.wt d0<=1073741824->c1c.wt out<=1073741824->
 t3x ((k:Int),(at_:Int),t,d0,jk,out)=some (match p98 f out k at_ t with
  | some x=> .inl (jk,x) | none=> .inr (d0,false))
 | 0,d0,out,jk,k,at_,t,h,_,_,_,_,_=>by omega
 | f+1,d0,out,jk,k,at_,t,h,ht,hk,hat,h0,ho=>by
  rw[p17];simp only[s23,r35,s95 out (k:Int) (by unfold u0i;omega),u9j d0 (by unfold u0i;omega),zOb];rw[p98];by_cases hz:t.size=0
  .simp only[hz,Ae,Ap,Aa,Bl]
  .simp only[hz,Ah,Bh,Ad,Bk];generalize u0k out (k:Int)=r;obtain⟨old,rok⟩:=r;cases rok with
   | false=>simp | true=>
    have e64:decide ((old.size:Int)=(64:Int))=decide (old.size=64):=by simp only[Cu];omega
    simp only[Ap,Aa,zOb,e64];by_cases hs:old.size=64
    .obtain⟨n,hn⟩:∃n,n=min t.size (64 - at_):=⟨_,rfl⟩;have w1:i64.wrap ((64:Int) - (at_:Int))=((64 - at_:Nat):Int):=by rw[y5f (by omega) (by omega)];omega
     have im:y8y (t.size:Int) ((64 - at_:Nat):Int)=(n:Int):=by
      unfold y8y;split<;>omega
     have w2:i64.wrap ((at_:Int)+(n:Int))=((at_+n:Nat):Int):=by rw[y5f (by omega) (by omega)];omega
     have w3:i64.wrap ((k:Int)+1)=((k+1:Nat):Int):=y7x (by omega);have z0:((0:Int)).toNat=0:=rfl;have hnl:n<=t.size:=by omega
     have hn64:at_+n<=64:=by omega
     have c1:(decide ((0:Int)<=0)&&decide ((0:Int)<=(at_:Int))&&decide ((at_:Int)<=(old.size:Int)))=true:=by simp;omega
     have c2:(decide ((0:Int)<=0)&&decide ((0:Int)<=(n:Int))&&decide ((n:Int)<=(t.size:Int)))=true:=by simp;omega
     have c3:decide ((old.extract 0 at_).size+(t.extract 0 n).size<=140737488355328)=true:=by simp only[Bd,Ar];omega
     have c4:(decide ((0:Int)<=((at_+n:Nat):Int))&&decide (((at_+n:Nat):Int)<=(old.size:Int))&&decide ((old.size:Int)<=(old.size:Int)))=true:=by simp;omega
     have c5:decide ((old.extract 0 at_++t.extract 0 n).size+(old.extract (at_+n) old.size).size<=140737488355328)=true:=by simp only[Af,Bd,Ar];omega
     have c6:(decide ((0:Int)<=(n:Int))&&decide ((n:Int)<=(t.size:Int))&&decide ((t.size:Int)<=(t.size:Int)))=true:=by simp;omega
     have hw:=p8h out (k:Int) (old.extract 0 at_++t.extract 0 n++old.extract (at_+n) 64) ho (by simp only[Af,Bd];omega);rw[hs] at c5;simp only[hs,Ae,Ap,Aa,w1,im,w2,w3,z0,zTn,c3,c5,and_self,Bl];rw[hs] at c1 c4;have c1' :(decide ((0:Int)<=0)&&decide ((0:Int)<=(at_:Int))&&decide ((at_:Int)<=((64:Nat):Int)))=true:=c1;have c4' :(decide ((0:Int)<=((at_+n:Nat):Int))&&decide (((at_+n:Nat):Int)<=((64:Nat):Int))&&decide (((64:Nat):Int)<=((64:Nat):Int)))=true:=c4;rw[c1',c2,c4',c6];simp only[Ad,hw,zOb,←hn];cases hx:u6y out (k:Int) (old.extract 0 at_++t.extract 0 n++old.extract (at_+n) 64) with
     | none=>simp[orD] | some x=>
      simp only[orD,Ap,Aa,zOb];have hsz:(t.extract n t.size).size=t.size - n:=by simp only[Bd];omega
      have:=d1a f d0 x jk (k+1) 0 (t.extract n t.size) (by omega) (by omega) (by omega) (by omega) h0 (A9 (u2q (t8j hx).1) (by omega));exact this
    .simp[hs]
theorem d1b (d0 jk:u0j) (sec at_:Nat) (t:Hs) (hsec:sec<=2000000000) (hat:at_<=6400) (ht:t.size<=1048576) (h0:c1c.wt d0<=1073741824):∀(f i:Nat) (out:u0j),i<=t.size->t.size - i<f->c1c.wt out<=1073741824->
 u7e ((sec:Int),(at_:Int),t,d0,jk,out,(i:Int))=some (match p98 f out (sec+(at_+i) / 64) ((at_+i) % 64) (t.extract i t.size) with
  | some x=> .inl (jk,x) | none=> .inr (d0,false))
 | 0,i,out,_,h,_=>by omega
 | f+1,i,out,hi,hf,ho=>by
  have hsz:(t.extract i t.size).size=t.size - i:=by simp only[Bd];omega
  have w0:i64.wrap ((at_:Int)+(i:Int))=((at_+i:Nat):Int):=by rw[y5f (by omega) (by omega)];omega
  have t1:Int.tdiv ((at_+i:Nat):Int) (64:Int)=(((at_+i) / 64:Nat):Int):=d3b (at_+i) 64;have t2:Int.tmod ((at_+i:Nat):Int) (64:Int)=(((at_+i) % 64:Nat):Int):=j4m (at_+i) 64;obtain⟨q,hq⟩:∃q,q=(at_+i) / 64:=⟨_,rfl⟩;obtain⟨m,hm⟩:∃m,m=(at_+i) % 64:=⟨_,rfl⟩;have w1:i64.wrap ((q:Int))=(q:Int):=y5f (by omega) (by omega);have w2:i64.wrap ((sec:Int)+(q:Int))=((sec+q:Nat):Int):=by rw[y5f (by omega) (by omega)];omega
  have w3:i64.wrap ((64:Int) - (m:Int))=((64 - m:Nat):Int):=by rw[y5f (by omega) (by omega)];omega
  have w4:i64.wrap ((t.size:Int) - (i:Int))=((t.size - i:Nat):Int):=by rw[y5f (by omega) (by omega)];omega
  rw[p18];simp only[s24,w0,t1,t2,←hq,←hm,w1,w2,w3,w4,s96 out ((sec+q:Nat):Int) (by unfold u0i;omega),u9k d0 (by unfold u0i;omega),zOb,u0b];rw[p98,hsz];by_cases hz:i<t.size
  .have hz' : ¬t.size - i=0:=by omega
   simp only[hz,Ae,Ad,hz',Bk];generalize u0k out ((sec+q:Nat):Int)=r;obtain⟨old,rok⟩:=r;cases rok with
   | false=>simp | true=>
    have e64:decide ((old.size:Int)=(64:Int))=decide (old.size=64):=by simp only[Cu];omega
    simp only[Ap,Aa,zOb,e64];by_cases hs:old.size=64
    .obtain⟨n,hn⟩:∃n,n=min (t.size - i) (64 - m):=⟨_,rfl⟩;have z0:((0:Int)).toNat=0:=rfl;have hm64:m<64:=by omega
     have body:∀N:Nat,N=n->i64.wrap ((i:Int)+(N:Int))=((i+n:Nat):Int)/\i64.wrap ((m:Int)+(N:Int))=((m+n:Nat):Int):=fun N hN=>by
      subst hN;exact⟨by rw[y5f (by omega) (by omega)];omega,by rw[y5f (by omega) (by omega)];omega⟩
     have c1:(decide ((0:Int)<=0)&&decide ((0:Int)<=(m:Int))&&decide ((m:Int)<=((64:Nat):Int)))=true:=by simp;omega
     have c2:(decide ((0:Int)<=(i:Int))&&decide ((i:Int)<=((i+n:Nat):Int))&&decide (((i+n:Nat):Int)<=(t.size:Int)))=true:=by simp;omega
     have c3:decide ((old.extract 0 m).size+(t.extract i (i+n)).size<=140737488355328)=true:=by simp only[Bd,Ar];omega
     have c4:(decide ((0:Int)<=((m+n:Nat):Int))&&decide (((m+n:Nat):Int)<=((64:Nat):Int))&&decide (((64:Nat):Int)<=((64:Nat):Int)))=true:=by simp;omega
     have c5:decide ((old.extract 0 m++t.extract i (i+n)).size+(old.extract (m+n) 64).size<=140737488355328)=true:=by simp only[Af,Bd,Ar];omega
     have hx1:(t.extract i t.size).extract 0 n=t.extract i (i+n):=by
      rw[ByteArray.extract_extract];congr 1;omega
     have hx2:(t.extract i t.size).extract n (t.size - i)=t.extract (i+n) t.size:=by
      rw[ByteArray.extract_extract];congr 1;omega
     have hw:=p8i out ((sec+q:Nat):Int) (old.extract 0 m++t.extract i (i+n)++old.extract (m+n) 64) ho (by simp only[Af,Bd];omega);have ih:∀x:u0j,u1u x=true->u7e ((sec:Int),(at_:Int),t,d0,jk,x,((i+n:Nat):Int))=some (match p98 f x (sec+q+1) 0 (t.extract (i+n) t.size) with
      | some x=> .inl (jk,x) | none=> .inr (d0,false)):=fun x hx=>by
      have:=d1b d0 jk sec at_ t hsec hat ht h0 f (i+n) x (by omega) (by omega) (A9 (u2q hx) (by omega));rw[this];by_cases he:i+n=t.size
      .have hsz2:(t.extract (i+n) t.size).size=0:=by simp only[Bd];omega
       rw[j09 _ _ _ _ hsz2,j09 _ _ _ _ hsz2]
      .have hn2:n=64 - m:=by omega
       have e1:sec+(at_+(i+n)) / 64=sec+q+1:=by omega
       have e2:(at_+(i+n)) % 64=0:=by omega
       rw[e1,e2]
     rw[←hn,hx1,hx2];simp only[hs,Ae,Ap,Aa,and_self,Bl];by_cases hb:t.size - i<64 - m
     .obtain⟨b1,b2⟩:=body (t.size - i) (by omega);simp only[hb,Ae,Ad,b1,b2,zTn,z0,c3,c5];rw[c1,c2,c4];simp only[Ad,hw,zOb];cases hx:u6y out ((sec+q:Nat):Int) (old.extract 0 m++t.extract i (i+n)++old.extract (m+n) 64) with
      | none=>simp[orD] | some x=>
       simp only[orD,Ap,Aa,zOb];exact ih x (t8j hx).1
     .obtain⟨b1,b2⟩:=body (64 - m) (by omega);simp only[hb,Ah,Aa,b1,b2,zTn,z0,c3,c5];rw[c1,c2,c4];simp only[Ad,hw,zOb];cases hx:u6y out ((sec+q:Nat):Int) (old.extract 0 m++t.extract i (i+n)++old.extract (m+n) 64) with
      | none=>simp[orD] | some x=>
       simp only[orD,Ap,Aa,zOb];exact ih x (t8j hx).1
    .simp[hs]
  .have hz' :t.size - i=0:=by omega
   simp only[hz,Ah,Aa,hz',Bl]
def u7i (d:u0j) (sector at_:Int) (t:Hs):Ht u0j:=
 if r8x at_ 0 6400&&r8x sector 0 ((d.1.length:Int) - 1)&&u1u d then p98 (t.size+1) d (sector.toNat+at_.toNat / 64) (at_.toNat % 64) t else none
theorem r0a (d:u0j) (sector at_:Int) (t:Hs) (hd:c1c.wt d<=1073741824) (ht:t.size<=1048576):t2w (d,sector,at_,t)=some (orD d (u7i d sector at_ t)):=by
 have h1:d.1.length<=1073741824:=A9 t48 hd;have w:i64.wrap ((d.1.length:Int) - 1)=(d.1.length:Int) - 1:=y5f (by omega) (by omega);rw[p6b];unfold r6o u7i;simp only[u9k d (by unfold u0i;omega),s94 d (by unfold u0i;omega),zOb,s6q,w];cases ha:r8x at_ 0 6400 with
 | false=>rfl | true=>
  cases hs:r8x sector 0 ((d.1.length:Int) - 1) with
  | false=>rfl | true=>
   cases hk:u1u d with
   | false=>rfl | true=>
    simp only[r8x,Ai,Ar] at ha hs;obtain⟨s,rfl⟩:∃s:Nat,sector=(s:Int):=⟨sector.toNat,by omega⟩;obtain⟨a,rfl⟩:∃a:Nat,at_=(a:Int):=⟨at_.toNat,by omega⟩;have L:=d1b d ([], []) s a t (by omega) (by omega) ht hd (t.size+1) 0 d (by omega) (by omega) hd;have L:u7e ((s:Int),(a:Int),t,d,([], []),d,0)=_:=L;have e:t.extract 0 t.size=t:=Fu;simp only[Ap,Aa,zOb,L,Dt,Bl,zTn,Df,e];cases p98 (t.size+1) d (s+a / 64) (a % 64) t<;>rfl
theorem d3e {f:Nat} {d:u0j} {k at_:Nat} {t:Hs} (hk:u1u d=false) (ht:t.size≠0):p98 (f+1) d k at_ t=none:=by
 rw[p98,Ao ht];split
 .have:∀s,u6y d (k:Int) s=none:=fun s=>by
   unfold u6y;rw[r9b,hk];rfl
  rw[this];rfl
 .rfl
theorem s99 (d:u0j) (sector at_:Int) (t:Hs) (hd:c1c.wt d<=1073741824) (ht:t.size<=1048576) (hne:t.size≠0):t2q (d,sector,at_,t)=some (orD d (u7i d sector at_ t)):=by
 have h1:d.1.length<=1073741824:=A9 t48 hd;have w:i64.wrap ((d.1.length:Int) - 1)=(d.1.length:Int) - 1:=y5f (by omega) (by omega);rw[p5z];unfold r6c u7i;simp only[u9j d (by unfold u0i;omega),zOb,s49,w];cases ha:r8x at_ 0 6400 with
 | false=>rfl | true=>
  cases hs:r8x sector 0 ((d.1.length:Int) - 1) with
  | false=>rfl | true=>
   simp only[r8x,Ai,Ar] at ha hs;obtain⟨s,rfl⟩:∃s:Nat,sector=(s:Int):=⟨sector.toNat,by omega⟩;obtain⟨a,rfl⟩:∃a:Nat,at_=(a:Int):=⟨at_.toNat,by omega⟩;have t1:Int.tdiv (a:Int) (64:Int)=((a / 64:Nat):Int):=d3b a 64;have t2:Int.tmod (a:Int) (64:Int)=((a % 64:Nat):Int):=j4m a 64;have w1:i64.wrap ((a / 64:Nat):Int)=((a / 64:Nat):Int):=y5f (by omega) (by omega);have w2:i64.wrap ((s:Int)+((a / 64:Nat):Int))=((s+a / 64:Nat):Int):=by rw[y5f (by omega) (by omega)];omega
   have L:=d1a (t.size+1) d d ([], []) (s+a / 64) (a % 64) t (by omega) ht (by omega) (by omega) hd hd;simp only[Ap,Aa,zOb,t1,t2,w1,w2,L,Bz,zTn];cases hk:u1u d with
   | false=>
    rw[d3e hk hne];rfl
   | true=>
    simp only[Bl];cases p98 (t.size+1) d (s+a / 64) (a % 64) t<;>rfl
def s7t (s:Hu Hs) (p:Int×Hs):Hu Hs:=s.set p.1.toNat p.2
def flush (d:u0j):u0j:=if u1u d then(d.2.foldl s7t d.1, []) else d
theorem s92 (s:Hu Hs) (p:Int×Hs):(s7t s p).length=s.length:=by simp[s7t]
theorem p1m:∀(c:Hu (Int×Hs)) (s:Hu Hs),(c.foldl s7t s).length=s.length
 | [],s=>rfl | p::c,s=>by rw[Bs,p1m c,s92]
theorem o7v:∀(c:Hu (Int×Hs)) (s:Hu Hs),(∀p∈c,p.2.size=64)->(∀x∈s,x.size=64)-> ∀x∈c.foldl s7t s,x.size=64
 | [],s,_,h=>h | p::c,s,hc,h=>by
  rw[Bs];refine o7v c _ (fun q hq=>hc q (Bm _ hq)) (fun x hx=> ?_);rcases E0 hx with hx | rfl
  .exact h x hx
  .exact hc p (C9 ..)
theorem s2m {d:u0j} (h:u1u d=true):u1u (flush d)=true/\(flush d).2= [] /\(flush d).1.length=d.1.length:=by
 unfold flush;rw[Al h];obtain⟨h1,h2,h3,h4⟩:=o7r.mp h;refine⟨o7r.mpr ⟨by rw[p1m];exact h1,by simp,o7v _ _ (fun p hp=>(h4 p hp).2) h3,fun p hp=>by cases hp⟩,rfl,p1m _ _⟩
theorem s0j (d:u0j) (hd:c1c.wt d<=1073741824):u8o d=some (flush d):=by
 have h1:d.1.length<=1073741824:=A9 t48 hd;have h2:d.2.length<=1073741824:=A9 t7w hd;rw[p9n];unfold q04 flush;simp only[u9k d (by unfold u0i;omega),s94 d (by unfold u0i;omega),zOb];cases hk:u1u d with
 | false=>rfl | true=>
  obtain⟨k1,k2,k3,k4⟩:=o7r.mp hk
  have L:=t13 t6v d.2 (fun s i=>(d,([], []),(s,d.2),i)) s7t (fun s=> .inl (([], []),(s,d.2))) (fun _ s=>s.length=d.1.length)
   (fun s _=>by rw[r4k];simp only[t6k,u0b,Am,Ah,Aa])
   (fun i hi s hs=>by
    refine⟨by rw[s92];exact hs,?_⟩;have hp:=(k4 d.2[i] (Ag hi)).1;have hg:y4v (d.2[i]).1 s.length=true:=by simp[y4v,hs,hp.1,hp.2]
    rw[r4k];simp only[t6k,u0b,hi,Ae,Ad,y8h hi,zTn,y9a (t:=o7j) hi,hg];rw[y7x (by omega)];rfl) d.1 rfl
  simp only[Ap,Aa,L,zOb,Bl]
theorem s0i (d:u0j) (hd:c1c.wt d<=1073741824):u8k d=some (flush d):=by
 have h1:d.1.length<=1073741824:=A9 t48 hd;have h2:d.2.length<=1073741824:=A9 t7w hd;rw[p8t];unfold q0d flush;simp only[u9j d (by unfold u0i;omega),r8z d (by unfold u0i;omega),zOb];cases hk:u1u d with
 | false=>rfl | true=>
  obtain⟨k1,k2,k3,k4⟩:=o7r.mp hk
  have L:=t13 t6s d.2 (fun s i=>(([], []),(s,d.2),d.2,(d.2.length:Int),i)) s7t (fun s=> .inl (([], []),(s,d.2))) (fun _ s=>s.length=d.1.length)
   (fun s _=>by rw[r4b];simp only[t6b,u0b,Am,Ah,Aa])
   (fun i hi s hs=>by
    refine⟨by rw[s92];exact hs,?_⟩;have hp:=(k4 d.2[i] (Ag hi)).1;have hg:y4v (d.2[i]).1 s.length=true:=by simp[y4v,hs,hp.1,hp.2]
    rw[r4b];simp only[t6b,u0b,hi,Ae,Ad,y8h hi,zTn,y9a (t:=o7j) hi,hg];rw[y7x (by omega)];rfl) d.1 rfl
  simp only[Ad,L,zOb,Bl]
def p1q (keep:Hu Int) (i:Nat):Bool:=decide (i<keep.length)&& !decide (Int.tmod (rdL (Ty.int .i64) keep i) 2=0)
def u0r (keep:Hu Int):Nat->Int
 | 0=> -1 | n+1=>if p1q keep n then(n:Int) else u0r keep n
def t8e (tear:Int):Nat:=(if Int.tmod tear 65<0 then Int.tmod tear 65+65 else Int.tmod tear 65).toNat
def t2j (d:u0j) (keep:Hu Int) (last:Int) (n:Nat) (s:Hu Hs) (i:Nat):Hu Hs:=
 if p1q keep i then
  (if(i:Int)=last then s7t s ((rdL o7j d.2 i).1,(rdL o7j d.2 i).2.extract 0 n++(rdL Ty.str s (rdL o7j d.2 i).1.toNat).extract n (rdL Ty.str s (rdL o7j d.2 i).1.toNat).size)
   else s7t s (rdL o7j d.2 i))
 else s
def t2i (d:u0j) (keep:Hu Int) (tear:Int):u0j:=
 if u1u d then((List.range d.2.length).foldl (t2j d keep (u0r keep d.2.length) (t8e tear)) d.1, []) else d
theorem p4s (tear:Int):t8e tear<=64/\((t8e tear:Nat):Int)=(if Int.tmod tear 65<0 then Int.tmod tear 65+65 else Int.tmod tear 65):=by
 have h1:Int.tmod tear 65<65:=Int.tmod_lt_of_pos _ (by omega);have h2: -65<Int.tmod tear 65:=by
  have:=Int.lt_tmod_of_pos tear (show(0:Int)<65 by omega);exact this
 unfold t8e;split<;>omega
theorem o3v (keep:Hu Int):∀n,u0r keep n<(n:Int)/\ -1<=u0r keep n
 | 0=>by simp[u0r]
 | n+1=>by
  have:=o3v keep n;unfold u0r;split<;>omega
theorem p70 (keep:Hu Int):∀n i,i<n->p1q keep i=true->(i:Int)<=u0r keep n
 | 0,i,h,_=>by omega
 | n+1,i,h,hk=>by
  unfold u0r;split
  .omega
  .rename_i hn;have:i≠n:=fun z=>by subst z;exact hn hk
   exact p70 keep n i (by omega) hk
theorem r9e (keep:Hu Int):∀n (i:Nat),u0r keep n=(i:Int)->p1q keep i=true
 | 0,i,h=>by simp[u0r] at h
 | n+1,i,h=>by
  unfold u0r at h;split at h
  .rename_i hk;have:n=i:=by omega
   subst this;exact hk
  .exact r9e keep n i h
theorem j3x (keep:Hu Int) (m:Nat) (hm:keep.length<=m):∀n,m<=n->u0r keep n=u0r keep m:=by
 intro n
 induction n with
 | zero=>intro h;have:m=0:=by omega
         rw[this]
 | succ n ih=>
  intro h;by_cases e:m=n+1
  .rw[e]
  .rw[←ih (by omega)];show(if p1q keep n then(n:Int) else u0r keep n)=_;have:p1q keep n=false:=by
    unfold p1q;have:decide (n<keep.length)=false:=by simp;omega
    rw[this];rfl
   rw[this,Ao (by simp)]
theorem o35 {α:Type} (f:α->Nat->α) (a:α) (n:Nat):(List.range (n+1)).foldl f a=f ((List.range n).foldl f a) n:=by
 rw[List.range_succ,List.foldl_append];rfl
section
variable {d:u0j} (hk:u1u d=true) (keep:Hu Int)
include hk in
theorem o9e {n:Nat} (hn:n<=64) {last:Int} {s:Hu Hs} (hs:s.length=d.1.length/\ ∀x∈s,x.size=64) {i:Nat} (hi:i<d.2.length):
 (t2j d keep last n s i).length=d.1.length/\ ∀x∈t2j d keep last n s i,x.size=64:=by
 obtain⟨k1,k2,k3,k4⟩:=o7r.mp hk;have hp:=k4 d.2[i] (Ag hi);have hat:(d.2[i]).1.toNat<s.length:=by omega
 have hold:(rdL Ty.str s (d.2[i]).1.toNat).size=64:=by
  have e:rdL Ty.str s (d.2[i]).1.toNat=s[(d.2[i]).1.toNat] :=y9a (t:=Ty.str) hat;rw[e];exact hs.2 _ (Ag hat)
 unfold t2j;rw[y9a (t:=o7j) hi];split
 .split
  .refine⟨by rw[s92];exact hs.1,fun x hx=> ?_⟩;rcases E0 hx with hx | rfl
   .exact hs.2 x hx
   .simp only[Af,Bd];rw[hp.2,hold];omega
  .refine⟨by rw[s92];exact hs.1,fun x hx=> ?_⟩;rcases E0 hx with hx | rfl
   .exact hs.2 x hx
   .exact hp.2
 .exact hs
def s4f (d:u0j) (keep:Hu Int) (last:Int) (n i:Nat):Hu Hs:=(List.range i).foldl (t2j d keep last n) d.1
theorem r0l {last:Int} {n i:Nat} :s4f d keep last n (i+1)=t2j d keep last n (s4f d keep last n i) i:=o35 _ _ _
include hk in
theorem r6v {n:Nat} (hn:n<=64) {last:Int} :∀i,i<=d.2.length->(s4f d keep last n i).length=d.1.length/\ ∀x∈s4f d keep last n i,x.size=64
 | 0,_=>⟨rfl,(o7r.mp hk).2.2.1⟩ | i+1,h=>by
  rw[r0l];exact o9e hk keep hn (r6v hn i (by omega)) (by omega)
theorem j8b {last:Int} {n L N:Nat} (h:∀i,L<=i->i<N->p1q keep i=false):∀m,L<=m->m<=N->s4f d keep last n m=s4f d keep last n L:=by
 intro m
 induction m with
 | zero=>intro h _;have:L=0:=by omega
         rw[this]
 | succ m ih=>
  intro hm hN;by_cases e:L=m+1
  .rw[e]
  .rw[r0l,ih (by omega) (by omega)];unfold t2j;rw[h m (by omega) (by omega),Ao (by simp)]
include hk
theorem o9f (tear:Int):u1u (t2i d keep tear)=true/\(t2i d keep tear).2= [] /\(t2i d keep tear).1.length=d.1.length:=by
 unfold t2i;rw[Al hk];have:=r6v hk keep (p4s tear).1 (last:=u0r keep d.2.length) d.2.length (Au _);have k1:=(o7r.mp hk).1;have hl:(s4f d keep (u0r keep d.2.length) (t8e tear) d.2.length).length=d.1.length:=this.1;show u1u (s4f d keep (u0r keep d.2.length) (t8e tear) d.2.length, [])=true/\_;exact⟨o7r.mpr ⟨by simp only[hl];exact k1,by simp,this.2,fun p hp=>by cases hp⟩,rfl,hl⟩
theorem d0e (tear:Int) (jk out:u0j):u73 (keep,tear,d,jk,out,-1,(d.2.length:Int),0)=some (.inl (keep,tear,d,jk,out,u0r keep d.2.length)):=by
 have k2:=(o7r.mp hk).2.1;refine r87 u73 d.2.length (fun l i=>(keep,tear,d,jk,out,l,(d.2.length:Int),i)) (u0r keep) _ ?_ (fun i hi=> ?_)
 .rw[r4a];simp only[t6a,u0b,Am,Ah,Aa]
 .rw[r4a];simp only[t6a,u0b,hi,Ae,Ad,zTn];rw[y7x (by omega)];show _=u73 (keep,tear,d,jk,out,(if p1q keep i then(i:Int) else u0r keep i),(d.2.length:Int),((i+1:Nat):Int));unfold p1q;by_cases h:i<keep.length
  .simp only[h,Ae,Ad,y8h h,Bz,zOb];cases decide (Int.tmod (rdL (Ty.int .i64) keep i) 2=0)<;>rfl
  .simp only[h,Ah,Aa,Fx,zOb];rfl
theorem d0f (tear:Int) (jk out:u0j):u76 (keep,tear,d,jk,out,-1,0)=some (.inl (keep,tear,d,jk,out,u0r keep d.2.length)):=by
 have k2:=(o7r.mp hk).2.1;obtain⟨m,hm⟩:∃m,m=min d.2.length keep.length:=⟨_,rfl⟩;have htop:u0r keep d.2.length=u0r keep m:=by
  by_cases h:keep.length<=d.2.length
  .exact j3x keep m (by omega) d.2.length (by omega)
  .have:m=d.2.length:=by omega
   rw[this]
 rw[htop];refine r87 u76 m (fun l i=>(keep,tear,d,jk,out,l,i)) (u0r keep) _ ?_ (fun i hi=> ?_)
 .rw[r4h];simp only[t6h,u0b];by_cases h:m<d.2.length
  .have: ¬m<keep.length:=by omega
   simp only[h,this,Ae,Ah,Ad,Aa,zOb]
  .simp only[h,Ah,Aa,zOb]
 .have h1:i<d.2.length:=by omega
  have h2:i<keep.length:=by omega
  rw[r4h];simp only[t6h,u0b,h1,h2,Ae,Ad,zOb,y8h h2,zTn];rw[y7x (by omega)];show _=u76 (keep,tear,d,jk,out,(if p1q keep i then(i:Int) else u0r keep i),((i+1:Nat):Int));unfold p1q;simp only[h2,Ae,Bz];cases decide (Int.tmod (rdL (Ty.int .i64) keep i) 2=0)<;>rfl
theorem j0o {n:Nat} (hn:n<=64) (jk:u0j):u7b (keep,jk,(d.1, []),u0r keep d.2.length,(n:Int),d.2,(d.2.length:Int),0)=some (.inl (jk,(s4f d keep (u0r keep d.2.length) n d.2.length, []))):=by
 obtain⟨k1,k2,k3,k4⟩:=o7r.mp hk;refine r87 u7b d.2.length (fun s i=>(keep,jk,(s, []),u0r keep d.2.length,(n:Int),d.2,(d.2.length:Int),i)) (s4f d keep (u0r keep d.2.length) n) _ ?_ (fun i hi=> ?_)
 .rw[r1v];simp only[t3j,u0b,Am,Ah,Aa]
 .obtain⟨i1,i2⟩:=r6v hk keep hn (last:=u0r keep d.2.length) i (by omega);have hp:=k4 d.2[i] (Ag hi);rw[r0l];generalize hS:s4f d keep (u0r keep d.2.length) n i=S at*;have hat:(d.2[i]).1.toNat<S.length:=by omega
  have hg:y4v (d.2[i]).1 S.length=true:=by simp[y4v,i1,hp.1.1,hp.1.2]
  have hold:(rdL Ty.str S (d.2[i]).1.toNat).size=64:=by
   have e:rdL Ty.str S (d.2[i]).1.toNat=S[(d.2[i]).1.toNat] :=y9a (t:=Ty.str) hat;rw[e];exact i2 _ (Ag hat)
  have c1:(decide ((0:Int)<=0)&&decide ((0:Int)<=(n:Int))&&decide ((n:Int)<=((d.2[i]).2.size:Int)))=true:=by simp;omega
  have c2:(decide ((0:Int)<=(n:Int))&&decide ((n:Int)<=((rdL Ty.str S (d.2[i]).1.toNat).size:Int))&&decide (((rdL Ty.str S (d.2[i]).1.toNat).size:Int)<=((rdL Ty.str S (d.2[i]).1.toNat).size:Int)))=true:=by simp;omega
  have c3:decide (((d.2[i]).2.extract 0 n).size+((rdL Ty.str S (d.2[i]).1.toNat).extract n (rdL Ty.str S (d.2[i]).1.toNat).size).size<=140737488355328)=true:=by simp only[Bd,Ar];omega
  have z0:((0:Int)).toNat=0:=rfl;rw[r1v];simp only[t3j,u0b,hi,Ae,Ad,y8h hi,zTn,y9a (t:=o7j) hi,hg,z0,c3];rw[y7x (by omega),c1,c2];unfold t2j;rw[y9a (t:=o7j) hi];by_cases hl:(i:Int)=u0r keep d.2.length
  .have:=r9e keep d.2.length i hl.symm;rw[this];simp only[hl,Ae,Ad,Bl];rfl
  .simp only[hl,Ah,Aa,Bk];unfold p1q;by_cases h:i<keep.length
   .simp only[h,Ae,Ad,y8h h,Bz,zOb];cases decide (Int.tmod (rdL (Ty.int .i64) keep i) 2=0)<;>rfl
   .simp only[h,Ah,Aa,Fx,zOb];rfl
theorem j0p {n:Nat} (hn:n<=64) (jk:u0j):u7c (keep,d,jk,(d.1,d.2),u0r keep d.2.length,(n:Int),0)=some (.inl (jk,(s4f d keep (u0r keep d.2.length) n d.2.length,d.2))):=by
 obtain⟨k1,k2,k3,k4⟩:=o7r.mp hk;obtain⟨hl1,hl2⟩:=o3v keep d.2.length;obtain⟨L,hL⟩:∃L:Nat,(L:Int)=u0r keep d.2.length+1:=⟨(u0r keep d.2.length+1).toNat,by omega⟩;have htop:s4f d keep (u0r keep d.2.length) n d.2.length=s4f d keep (u0r keep d.2.length) n L:=j8b keep (N:=d.2.length) (fun i hi hid=>by
  cases q:p1q keep i with
  | false=>rfl | true=>
   have:=p70 keep d.2.length i hid q;omega) _ (by omega) (Au _)
 rw[htop];refine r87 u7c L (fun s i=>(keep,d,jk,(s,d.2),u0r keep d.2.length,(n:Int),i)) (s4f d keep (u0r keep d.2.length) n) _ ?_ (fun i hi=> ?_)
 .have: ¬(L:Int)<=u0r keep d.2.length:=by omega
  rw[r19];simp only[t3o,this,Ah,Aa]
 .have hid:i<d.2.length:=by omega
  have hle:(i:Int)<=u0r keep d.2.length:=by omega
  have hkk:i<keep.length:=by
   obtain⟨l,hl⟩:∃l:Nat,u0r keep d.2.length=(l:Int):=⟨(u0r keep d.2.length).toNat,by omega⟩;have:=r9e keep d.2.length l hl;unfold p1q at this;simp only[Ai,Ar] at this;omega
  obtain⟨i1,i2⟩:=r6v hk keep hn (last:=u0r keep d.2.length) i (by omega);have hp:=k4 d.2[i] (Ag hid);rw[r0l];generalize hS:s4f d keep (u0r keep d.2.length) n i=S at*;have hat:(d.2[i]).1.toNat<S.length:=by omega
  have hg:y4v (d.2[i]).1 S.length=true:=by simp[y4v,i1,hp.1.1,hp.1.2]
  have hold:(rdL Ty.str S (d.2[i]).1.toNat).size=64:=by
   have e:rdL Ty.str S (d.2[i]).1.toNat=S[(d.2[i]).1.toNat] :=y9a (t:=Ty.str) hat;rw[e];exact i2 _ (Ag hat)
  have c1:(decide ((0:Int)<=0)&&decide ((0:Int)<=(n:Int))&&decide ((n:Int)<=((d.2[i]).2.size:Int)))=true:=by simp;omega
  have c2:(decide ((0:Int)<=(n:Int))&&decide ((n:Int)<=((rdL Ty.str S (d.2[i]).1.toNat).size:Int))&&decide (((rdL Ty.str S (d.2[i]).1.toNat).size:Int)<=((rdL Ty.str S (d.2[i]).1.toNat).size:Int)))=true:=by simp;omega
  have c3:decide (((d.2[i]).2.extract 0 n).size+((rdL Ty.str S (d.2[i]).1.toNat).extract n (rdL Ty.str S (d.2[i]).1.toNat).size).size<=140737488355328)=true:=by simp only[Bd,Ar];omega
  have z0:((0:Int)).toNat=0:=rfl;rw[r19];simp only[t3o,hle,Ae,Ad,y8h hid,y8h hkk,zTn,y9a (t:=o7j) hid,hg,z0,c3];rw[y7x (by omega),c1,c2];unfold t2j p1q;rw[y9a (t:=o7j) hid];simp only[hkk,Ae,Bz];by_cases ho:Int.tmod (rdL (Ty.int .i64) keep i) 2=0
  .simp only[ho,Ae,Ad,Ap,Br,Bk]
  .simp only[ho,Ah,Aa,Bh,Bl];by_cases hl:(i:Int)=u0r keep d.2.length
   .simp only[hl,Ae,Ad,Bl];rfl
   .simp only[hl,Ah,Aa,Bk];rfl
end
theorem q79 (d:u0j) (keep:Hu Int) (tear:Int) (hd:c1c.wt d<=1073741824):s2u (d,keep,tear)=some (t2i d keep tear):=by
 rw[p9k];unfold q01 t2i;simp only[u9k d (by unfold u0i;omega),s94 d (by unfold u0i;omega),zOb];cases hk:u1u d with
 | false=>rfl | true=>
  obtain⟨t1,t2⟩:=p4s tear;have L1:=d0f hk keep tear ([], []) d;have L2:=j0p hk keep t1 ([], []);rw[t2] at L2;have hb: -65<Int.tmod tear 65:=Int.lt_tmod_of_pos tear (show(0:Int)<65 by omega);simp only[Ap,Aa,L1,zOb,Bl];by_cases h:Int.tmod tear 65<0
  .rw[Al h] at L2;have w:i64.wrap (i64.wrap (Int.tmod tear 65+64)+1)=Int.tmod tear 65+65:=by
    rw[y5f (n:=Int.tmod tear 65+64) (by omega) (by omega),y5f (by omega) (by omega)];omega
   simp only[h,Ae,Ad,w,L2,zOb];rfl
  .rw[Ao h] at L2;simp only[h,Ah,Aa,L2,zOb];rfl
theorem q78 (d:u0j) (keep:Hu Int) (tear:Int) (hd:c1c.wt d<=1073741824):s2p (d,keep,tear)=some (t2i d keep tear):=by
 rw[p8q];unfold q0a t2i;simp only[u9j d (by unfold u0i;omega),r8z d (by unfold u0i;omega),zOb];cases hk:u1u d with
 | false=>rfl | true=>
  obtain⟨t1,t2⟩:=p4s tear;have L1:=d0e hk keep tear ([], []) (d.1, []);have L2:=j0o hk keep t1 ([], []);rw[t2] at L2;have hb: -65<Int.tmod tear 65:=Int.lt_tmod_of_pos tear (show(0:Int)<65 by omega);simp only[Ap,Aa,L1,zOb,Bl];by_cases h:Int.tmod tear 65<0
  .rw[Al h] at L2;have w:i64.wrap (Int.tmod tear 65+65)=Int.tmod tear 65+65:=y5f (by omega) (by omega);simp only[h,Ae,Ad,w,L2,zOb];rfl
  .rw[Ao h] at L2;simp only[h,Ah,Aa,L2,zOb];rfl
theorem o08 (t:Hs):∀(m:Nat) (at_:Int) (acc:Hu Hs),0<=at_/\at_<=t.size->0<=(u89 t m at_ acc).2.1/\(u89 t m at_ acc).2.1<=t.size
 | 0,at_,acc,h=>h | m+1,at_,acc,h=>by
  unfold u89;split
  .rename_i hc;simp only[Ai] at hc;exact o08 t m _ _ (q6x hc.1)
  .simp
theorem r9y (d:u0j) (a:Int):0<=(u0c d a).2.1/\(u0c d a).2.1<=(100*c1c.wt d:Nat):=by
 unfold u0c;split
 .have h1:=o08 (t1h d (u0d a+1) 47).1 (u0z d a).toNat 0 [] (by simp);have h2:=q6z d (u0d a+1) 47;omega
 .simp only[Bv,true_and];omega
def u0u (t:Hs):Hs:=y7s (s88 t.size)++t
theorem s7u (t:Hs):t.size<=(u0u t).size/\(u0u t).size<=2*t.size+1:=by
 unfold u0u;rw[Af,u58];have:=j7o t.size;omega
theorem j6a (t:Hs) (h:t.size≠0):(u0u t).size≠0:=by
 have:=s7u t;omega
def t1k (d:u0j) (a:Int) (t:Hs):Ht u0j:=
 if(u0c d a).2.2=false\/t.size=0\/3008<t.size\/255<=u0z d a\/3008<(u0c d a).2.1+((u0u t).size:Int) then none
 else u7i d (u0d a+1) (u0c d a).2.1 (u0u t)
theorem o3r (d:u0j) (a:Int) (t:Hs) (hd:c1c.wt d<=10000000) (ht:t.size<=1048576):s42 (d,a,t)=some (orD d (t1k d a t)):=by
 have hr:=r9y d a;have hs:=s7u t;have ha:=s3i a;rw[o28];unfold q5r t1k;simp only[r84 d a (by omega),u9k d (by unfold u0i;omega),s7b d a (by unfold u0i;omega),o3q t.size (by omega),s55,zOb,r35];have e1:decide ((t.size:Int) >(3008:Int))=decide (3008<t.size):=by simp only[Cu];omega
 have w1:i64.wrap ((3008:Int) - (u0c d a).2.1)=3008 - (u0c d a).2.1:=y5f (by omega) (by omega);have w2:i64.wrap (u0d a+1)=u0d a+1:=y5f (by omega) (by omega);rw[e1];cases h1:(u0c d a).2.2 with
 | false=>simp[orD] | true=>
  by_cases h2:t.size=0
  .simp[h2,orD]
  .by_cases h3:3008<t.size
   .simp[h2,h3,orD]
   .by_cases h4:255<=u0z d a
    .have:decide (u0z d a>=255)=true:=by simpa using h4
     simp[h2,h3,h4,orD]
    .have e4:decide (u0z d a>=255)=false:=by simp;omega
     have c:decide ((y7s (s88 t.size)).size+t.size<=140737488355328)=true:=by
      have h5:(u0u t).size=(y7s (s88 t.size)).size+t.size:=by unfold u0u;rw[Af]
      simp;omega
     simp only[h2,h3,Ah,Ap,Aa,zOb,e4,c,Ad,w1,w2];have hsz:y7s (s88 t.size)++t=u0u t:=rfl;rw[hsz];by_cases h6:3008<(u0c d a).2.1+((u0u t).size:Int)
     .have:decide (((u0u t).size:Int) >3008 - (u0c d a).2.1)=true:=by simp;omega
      simp[this,h6,orD]
     .have:decide (((u0u t).size:Int) >3008 - (u0c d a).2.1)=false:=by simp;omega
      simp only[this,Aa,r0a d (u0d a+1) (u0c d a).2.1 (u0u t) (by omega) (by omega),zOb];rw[Ao (by simp[h2,h3,h6];omega)]
theorem p6x (t:Hs) (ht:t.size<=1048576):t5k t=some (if 20000<t.size then(emp,false) else(u0u t,true)):=by
 rw[p82];unfold q0l;have e1:decide ((t.size:Int) >(20000:Int))=decide (20000<t.size):=by simp only[Cu];omega
 rw[e1];by_cases h:20000<t.size
 .simp only[h,Ae,Ad,Bl];rfl
 .have c:decide ((y7s (s88 t.size)).size+t.size<=140737488355328)=true:=by
   rw[u58];have:=j7o t.size;simp;omega
  have hv:(0:Int)<=(t.size:Int)/\(t.size:Int)<=1000000000:=by omega
  simp only[h,Ah,Aa,q39,Al hv,zOb,zTn,c,Ad,Bk];rfl
theorem o71 (d:u0j) (a:Int) (t:Hs) (hd:c1c.wt d<=10000000) (ht:t.size<=1048576):s6x (d,a,t)=some (orD d (if u2s d then t1k d a t else none)):=by
 have hr:=r9y d a;have hs:=s7u t;have ha:=s3i a;have hcl:=r6u d a;rw[o5v];unfold q81 t1k;simp only[r83 d a (by omega),u9j d (by unfold u0i;omega),s7a d a (by unfold u0i;omega),p5f d (by omega),p6x t ht,s54,zOb,r35];cases hl:u2s d with
 | false=>simp[orD] | true=>
  cases h1:(u0c d a).2.2 with
  | false=>simp[orD] | true=>
   by_cases h0:20000<t.size
   .have:3008<t.size:=by omega
    simp[h0,this,orD]
   .by_cases h2:t.size=0
    .simp[h0,h2,orD]
    .have w1:i64.wrap ((u0c d a).2.1+((u0u t).size:Int))=(u0c d a).2.1+((u0u t).size:Int):=y5f (by omega) (by omega);have w2:i64.wrap (u0d a+1)=u0d a+1:=y5f (by omega) (by omega);simp only[h0,h2,Bk,Ah,Ap,Aa,zOb,w1,w2,Bl];by_cases h6:3008<(u0c d a).2.1+((u0u t).size:Int)
     .have:decide ((u0c d a).2.1+((u0u t).size:Int) >3008)=true:=by simpa using h6
      simp[this,h6,orD]
     .have e6:decide ((u0c d a).2.1+((u0u t).size:Int) >3008)=false:=by simp;omega
      have h3: ¬3008<t.size:=by omega
      by_cases h4:255<=u0z d a
      .have:decide (u0z d a=255)=true:=by simp;omega
       simp[e6,this,h4,orD]
      .have e4:decide (u0z d a=255)=false:=by simp;omega
       simp only[e6,Aa,e4,zOb,s99 d (u0d a+1) (u0c d a).2.1 (u0u t) (by omega) (by omega) (j6a t h2)];rw[Ao (by simp[h2,h3,h6];omega)]
def t97 (n:Int):Hs:=y7s [u8.wrap n]
theorem u2z (n:Int):(t97 n).size=1:=by unfold t97;rw[u58];rfl
def r27 (d:u0j) (a n:Int):Ht u0j:=u7i d (u0d a) 0 (t97 n)
theorem p1r (d:u0j) (a n:Int) (hd:c1c.wt d<=1073741824):t8c (d,a,n)=some (orD d (r27 d a n)):=by
 rw[o3a];unfold q5s;have h1:s43 n=some (t97 n):=by rw[p36];rfl
 simp only[s55,h1,zOb,r0a d (u0d a) 0 (t97 n) hd (by rw[u2z];omega)];rfl
theorem p1w (d:u0j) (a n:Int) (hd:c1c.wt d<=1073741824):t79 (d,a,n)=some (orD d (r27 d a n)).1:=by
 rw[o2k];unfold q43;have h1:y7s [u8.wrap n] =t97 n:=rfl;simp only[s54,h1,zOb,s99 d (u0d a) 0 (t97 n) hd (by rw[u2z];omega) (by rw[u2z];omega)];rfl
theorem d09:∀ {f:Nat} {d x:u0j} {k at_:Nat} {t:Hs},p98 f d k at_ t=some x->(u1u d=true->u1u x=true)/\x.1=d.1/\(t.size≠0->0<f->u1u x=true)
 | 0,d,x,k,at_,t,h=>by cases h;exact⟨id,rfl,fun _ h=>by omega⟩
 | f+1,d,x,k,at_,t,h=>by
  rw[p98] at h;split at h
  .rename_i hz;cases h;exact⟨id,rfl,fun hne=>absurd hz hne⟩
  .split at h
   .cases hw:u6y d (k:Int) ((u0k d (k:Int)).1.extract 0 at_++t.extract 0 (min t.size (64 - at_))++(u0k d (k:Int)).1.extract (at_+min t.size (64 - at_)) 64) with
    | none=>rw[hw] at h;cases h | some y=>
     rw[hw] at h;simp only[zOb] at h;obtain⟨k1,k2⟩:=t8j hw;obtain⟨i1,i2,_⟩:=d09 h;exact⟨fun _=>i1 k1,by rw[i2,k2],fun _ _=>i1 k1⟩
   .cases h
theorem t09 {d x:u0j} {s at_:Int} {t:Hs} (h:u7i d s at_ t=some x):u1u d=true/\u1u x=true/\x.1=d.1:=by
 unfold u7i at h;split at h
 .rename_i hc;simp only[Ai] at hc;obtain⟨i1,i2,_⟩:=d09 h;exact⟨hc.2,i1 hc.2,i2⟩
 .cases h
theorem s4d {d x:u0j} {a:Int} {t:Hs} (h:t1k d a t=some x):u1u d=true/\u1u x=true/\x.1=d.1/\(u0c d a).2.2=true:=by
 unfold t1k at h;split at h
 .cases h
 .rename_i hc;have:=t09 h;simp only[Hr] at hc;exact⟨this.1,this.2.1,this.2.2,by simpa using hc.1⟩
theorem p1v {d:u0j} (hk:u1u d=true) (h2:d.2= []) {s:Int} (h0:0<=s) (h1:s<(d.1.length:Int)) {b:Hs} (hb:b.size=1):
 u7i d s 0 b=some (d.1, [(s,b++(rdL Ty.str d.1 s.toNat).extract 1 64)]):=by
 obtain⟨k1,k2,k3,k4⟩:=o7r.mp hk;have hlt:s.toNat<d.1.length:=by omega
 have hold:(rdL Ty.str d.1 s.toNat).size=64:=by
  have e:rdL Ty.str d.1 s.toNat=d.1[s.toNat] :=y9a (t:=Ty.str) hlt;rw[e];exact k3 _ (Ag hlt)
 have hs:((s.toNat:Nat):Int)=s:=by omega
 have hrd:u0k d s=(rdL Ty.str d.1 s.toNat,true):=by
  unfold u0k;rw[Al ⟨h0,h1⟩,h2];rfl
 have c:(r8x 0 0 6400&&r8x s 0 ((d.1.length:Int) - 1)&&u1u d)=true:=by
  rw[hk];simp[r8x];omega
 have e1:(rdL Ty.str d.1 s.toNat).extract 0 0=ByteArray.empty:=by
  apply Gf;simp
 have e2:b.extract 0 1=b:=by rw[←hb];exact Fu
 have hw:u6y d s (b++(rdL Ty.str d.1 s.toNat).extract 1 64)=some (d.1, [(s,b++(rdL Ty.str d.1 s.toNat).extract 1 64)]):=by
  unfold u6y;rw[r9b,hk,h2];have:r8x s 0 ((d.1.length:Int) - 1)=true:=by simp[r8x];omega
  rw[this];have hz:(b++(rdL Ty.str d.1 s.toNat).extract 1 64).size=64:=by
   rw[Af,Bd,hb,hold];omega
  simp[hz]
 unfold u7i;rw[Al c];have z:(0:Int).toNat=0:=rfl;simp only[z,Nat.zero_div,Nat.zero_mod,Df,hb];rw[p98,Ao (by omega)];rw[hs,hrd];simp only[hold,and_self,Bl,hb];have m1:min 1 (64 - 0)=1:=by decide
 rw[m1,e1,e2];have e3:ByteArray.empty++b++(rdL Ty.str d.1 s.toNat).extract (0+1) 64=b++(rdL Ty.str d.1 s.toNat).extract 1 64:=by
  rw[ByteArray.empty_append]
 rw[e3,hw];simp only[zOb];exact j09 _ _ _ _ (by rw[Bd,hb];decide)
def s3k (d:u0j) (a:Int):Int:=i64.wrap (u0z d a+1)
def p4i (d:u0j) (a:Int) (t:Hs):Ht u0j:=(t1k d a t).map fun x=>flush (orD (flush x) (r27 (flush x) a (s3k d a))).1
theorem j77 {d x:u0j} {a:Int} {t:Hs} (h:t1k d a t=some x):j0q a=true:=by
 have:=(s4d h).2.2.2;unfold u0c at this;split at this
 .rename_i hc;simp only[Ai] at hc;exact hc.1
 .cases this
theorem p3o {d x:u0j} {a n:Int} {t:Hs} (hlen:d.1.length=97) (h:t1k d a t=some x):∃y,r27 (flush x) a n=some y/\u1u y=true/\y.1.length=97:=by
 obtain⟨h1,h2,h3,_⟩:=s4d h;obtain⟨f1,f2,f3⟩:=s2m h2;have hl:(flush x).1.length=97:=by rw[f3,h3];exact hlen
 have ha:=s3i a;have ho:=p1v (s:=u0d a) f1 f2 (by omega) (by rw[hl];omega) (u2z n);have:=t09 ho;exact⟨_,ho,this.2.1,by rw[this.2.2];exact hl⟩
theorem u53 {d:u0j} (h:u2s d=true):u1u d=true/\d.1.length=97/\d.2= [] /\(u0c d 0).2.2=true/\(u0c d 1).2.2=true:=by
 unfold u2s at h;simp only[Ai,Ar] at h;obtain⟨⟨⟨⟨a,b⟩,c⟩,e⟩,f⟩:=h;exact⟨a,b,Dk.mp c,e,f⟩
theorem j3v (d:u0j) (a:Int) (t:Hs) (hd:c1c.wt d<=10000000) (ht:t.size<=1048576) (hlen:d.1.length=97):s9w (d,a,t)=some (orD d (p4i d a t)):=by
 rw[j0g];unfold p3f p4i;simp only[o3r d a t hd ht,zOb];cases hb:t1k d a t with
 | none=>rfl | some x=>
  have hx:=u2q (s4d hb).2.1;have hf:=u2q (s2m (s4d hb).2.1).1;obtain⟨y,hy,hy2,_⟩:=p3o (n:=s3k d a) hlen hb;have hyw:=u2q hy2;simp only[orD,Ap,Aa,s0j x (by omega),s7b d a (by unfold u0i;omega),zOb,p1r (flush x) a _ (by omega)];have hc:i64.wrap (u0z d a+1)=s3k d a:=rfl;rw[hc,hy];simp only[orD,s0j y (by omega),zOb,Dc,hy]
theorem o4x (d:u0j) (a:Int) (t:Hs) (hd:c1c.wt d<=10000000) (ht:t.size<=1048576):s8i (d,a,t)=some (orD d (if u2s d then p4i d a t else none)):=by
 rw[p9p];unfold q06;simp only[p5g d (by omega),q7p,u9k d (by unfold u0i;omega),zOb];cases hl:u2s d with
 | false=>simp[orD] | true=>
  cases ha:j0q a with
  | false=>
   have hn:p4i d a t=none:=by
    unfold p4i;cases hb:t1k d a t with
    | none=>rfl | some x=>rw[j77 hb] at ha;cases ha
   simp[hn,orD]
  | true=>
   simp only[Ap,Aa,zOb,j3v d a t hd ht (u53 hl).2.1,Bl];cases p4i d a t<;>simp[orD]
theorem q8c (d:u0j) (a:Int) (t:Hs) (hd:c1c.wt d<=10000000) (ht:t.size<=1048576):s2q (d,a,t)=some (orD d (if u2s d then p4i d a t else none)):=by
 rw[p8w];unfold q0f;simp only[o71 d a t hd ht,u9j d (by unfold u0i;omega),zOb];cases hl:u2s d with
 | false=>simp[orD] | true=>
  simp only[Bl];unfold p4i;cases hb:t1k d a t with
  | none=>simp[orD] | some x=>
   have hx:=u2q (s4d hb).2.1;have hf:=u2q (s2m (s4d hb).2.1).1;obtain⟨y,hy,hy2,_⟩:=p3o (n:=s3k d a) (u53 hl).2.1 hb;have hyw:=u2q hy2;simp only[orD,Ap,Aa,s0i x (by omega),s7a d a (by unfold u0i;omega),zOb,p1w (flush x) a _ (by omega)];have hc:i64.wrap (u0z d a+1)=s3k d a:=rfl;rw[hc,hy];simp only[orD,s0i y (by omega),zOb,Dc,hy]
def append_ (d:u0j) (t:Hs):Ht u0j:=if u2s d then p4i d (u0n d) t else none
theorem r4t (d:u0j) (t:Hs) (hd:c1c.wt d<=10000000) (ht:t.size<=1048576):t5o (d,t)=some (orD d (append_ d t)):=by
 rw[p9i];unfold q0z append_;simp only[s9e d (by unfold u0i;omega),zOb,o4x d _ t hd ht]
theorem r4s (d:u0j) (t:Hs) (hd:c1c.wt d<=10000000) (ht:t.size<=1048576):t5j (d,t)=some (orD d (append_ d t)):=by
 rw[p8n];unfold r97 append_;simp only[s9d d (by unfold u0i;omega),zOb,q8c d _ t hd ht]
theorem j7h {d y:u0j} {a:Int} {t:Hs} (hlen:d.1.length=97) (h:p4i d a t=some y):∃x,t1k d a t=some x/\u1u x=true/\u1u y=true/\y.2= [] /\y.1.length=97/\y=flush (orD (flush x) (r27 (flush x) a (s3k d a))).1:=by
 unfold p4i at h;cases hb:t1k d a t with
 | none=>rw[hb] at h;cases h | some x=>
  rw[hb] at h;simp only[Dc,Ac] at h;obtain⟨z,hz,hz2,hz3⟩:=p3o (n:=s3k d a) hlen hb;rw[hz] at h;simp only[orD] at h;obtain⟨f1,f2,f3⟩:=s2m hz2;rw[←h];exact⟨x,rfl,(s4d hb).2.1,f1,f2,by rw[f3];exact hz3,by rw[hz];rfl⟩
def u2v (d:u0j) (t:Hs) (step:Int) (keep:Hu Int) (tear:Int):u0j:=
 match append_ d t with
 | none=>d | some y=>
  if step=0 then t2i (orD d (t1k d (u0n d) t)).1 keep tear
  else if step=1 then t2i (orD (flush (orD d (t1k d (u0n d) t)).1) (r27 (flush (orD d (t1k d (u0n d) t)).1) (u0n d) (s3k d (u0n d)))).1 keep tear
  else y
section
variable {d:u0j} {t:Hs} (hd:c1c.wt d<=10000000) (ht:t.size<=1048576)
include hd ht
omit hd ht in
theorem r26 {y:u0j} (h:append_ d t=some y):u2s d=true/\ ∃x z,t1k d (u0n d) t=some x/\u1u x=true/\u1u (flush x)=true/\r27 (flush x) (u0n d) (s3k d (u0n d))=some z/\u1u z=true/\u1u y=true:=by
 unfold append_ at h;split at h
 .rename_i hl;obtain⟨x,h1,h2,h3,_⟩:=j7h (u53 hl).2.1 h;obtain⟨z,hz,hz2,_⟩:=p3o (n:=s3k d (u0n d)) (u53 hl).2.1 h1;exact⟨hl,x,z,h1,h2,(s2m h2).1,hz,hz2,h3⟩
 .cases h
theorem o4v (step:Int) (keep:Hu Int) (tear:Int):s8h (d,t,step,keep,tear)=some (u2v d t step keep tear):=by
 rw[p9l];unfold q02 u2v;simp only[r4t d t hd ht,u9k d (by unfold u0i;omega),s9e d (by unfold u0i;omega),s7b d _ (by unfold u0i;omega),zOb];cases ha:append_ d t with
 | none=>rfl | some y=>
  obtain⟨hl,x,z,hb,k1,k2,hz,k3,k4⟩:=r26 ha;have w1:=u2q k1;have w2:=u2q k2;have w3:=u2q k3;have hc:i64.wrap (u0z d (u0n d)+1)=s3k d (u0n d):=rfl;simp only[orD,Ap,Aa,o3r d _ t hd ht,hb,zOb,q79 x keep tear (by omega),s0j x (by omega),p1r (flush x) _ _ (by omega),hc,hz,q79 z keep tear (by omega)];by_cases h0:step=0
  .simp[h0]
  .by_cases h1:step=1
   .simp[h1]
   .simp[h0,h1]
theorem o4u (step:Int) (keep:Hu Int) (tear:Int):s78 (d,t,step,keep,tear)=some (u2v d t step keep tear):=by
 rw[p8r];unfold q0b u2v;simp only[r4s d t hd ht,u9j d (by unfold u0i;omega),s9d d (by unfold u0i;omega),s7a d _ (by unfold u0i;omega),zOb];cases ha:append_ d t with
 | none=>rfl | some y=>
  obtain⟨hl,x,z,hb,k1,k2,hz,k3,k4⟩:=r26 ha;have w1:=u2q k1;have w2:=u2q k2;have w3:=u2q k3;have hc:i64.wrap (u0z d (u0n d)+1)=s3k d (u0n d):=rfl;simp only[orD,Ap,Aa,o71 d _ t hd ht,hl,Bl,hb,zOb,q78 x keep tear (by omega),s0i x (by omega),p1w (flush x) _ _ (by omega),hc,hz,q78 z keep tear (by omega)];by_cases h0:step=0
  .simp[h0]
  .by_cases h1:step=1
   .simp[h1]
   .simp[h0,h1]
omit ht in
theorem p7u (step:Int) (keep:Hu Int) (tear:Int):c1c.wt (u2v d t step keep tear)<=10000000:=by
 unfold u2v;cases ha:append_ d t with
 | none=>exact hd | some y=>
  obtain⟨hl,x,z,hb,k1,k2,hz,k3,k4⟩:=r26 ha;simp only[hb,orD,hz];split
  .have:=u2q (o9f k1 keep tear).1;omega
  .split
   .have:=u2q (o9f k3 keep tear).1;omega
   .have:=u2q k4;omega
end
theorem p09 {d x:u0j} {k:Int} {s:Hs} (h:u6y d k s=some x) {j:Int} (hj:j≠k):u0k x j=u0k d j:=by
 have:=(t8j h).2;subst this;have hne: ¬k=j:=fun z=>hj z.symm
 unfold u0k;simp only[q6k,hne,Bk]
theorem q7v:∀ {f:Nat} {d x:u0j} {k at_:Nat} {t:Hs},p98 f d k at_ t=some x->at_<64-> ∀j:Nat,¬(k<=j/\j*64<k*64+at_+t.size)->u0k x (j:Int)=u0k d (j:Int)
 | 0,d,x,k,at_,t,h,_,j,_=>by cases h;rfl
 | f+1,d,x,k,at_,t,h,hat,j,hj=>by
  rw[p98] at h;split at h
  .cases h;rfl
  .rename_i hz;split at h
   .cases hw:u6y d (k:Int) ((u0k d (k:Int)).1.extract 0 at_++t.extract 0 (min t.size (64 - at_))++(u0k d (k:Int)).1.extract (at_+min t.size (64 - at_)) 64) with
    | none=>rw[hw] at h;cases h | some y=>
     rw[hw] at h;simp only[zOb] at h;have hne:j≠k:=fun z=>hj ⟨by omega,by omega⟩
     rw[←p09 hw (j:=(j:Int)) (by omega)];refine q7v h (by omega) j (fun z=>hj ?_);rw[Bd] at z;omega
   .cases h
theorem j4k {s:Hu Hs} {p:Int×Hs} {j:Int} (hp:0<=p.1) (hj0:0<=j) (hj:j.toNat<s.length):rdL Ty.str (s7t s p) j.toNat=if p.1=j then p.2 else rdL Ty.str s j.toNat:=by
 have h' :j.toNat<(s.set p.1.toNat p.2).length:=by rw[Dq];exact hj
 have e1:rdL Ty.str (s.set p.1.toNat p.2) j.toNat=(s.set p.1.toNat p.2)[j.toNat] :=y9a (t:=Ty.str) h';have e2:rdL Ty.str s j.toNat=s[j.toNat] :=y9a (t:=Ty.str) hj;show rdL Ty.str (s.set p.1.toNat p.2) j.toNat=_;rw[e1,e2,List.getElem_set];by_cases e:p.1=j
 .rw[Al (by rw[e]),Al e]
 .rw[Ao (by omega),Ao e]
theorem o7w {j:Int} (hj0:0<=j) (z:Hs):∀(c:Hu (Int×Hs)) (s:Hu Hs) (t:Ht Hs),(∀p∈c,0<=p.1)->j.toNat<s.length->rdL Ty.str s j.toNat=t.getD z->
 rdL Ty.str (c.foldl s7t s) j.toNat=(c.foldl (fun t p=>if p.1=j then some p.2 else t) t).getD z
 | [],s,t,_,_,h=>h | p::c,s,t,hc,hl,h=>by
  rw[Bs,Bs];refine o7w hj0 z c _ _ (fun q hq=>hc q (Bm _ hq)) (by rw[s92];exact hl) ?_;rw[j4k (hc p (C9 ..)) hj0 hl];split
  .rfl
  .exact h
theorem t7z {d:u0j} (hk:u1u d=true) (j:Int):u0k (flush d) j=u0k d j:=by
 obtain⟨_,f2,f3⟩:=s2m hk;obtain⟨k1,k2,k3,k4⟩:=o7r.mp hk;unfold u0k;rw[f3];split
 .rename_i hj;have e1:t56 (flush d).2 j=none:=by rw[f2];rfl
  rw[e1];have e2:(flush d).1=d.2.foldl s7t d.1:=by unfold flush;rw[Al hk]
  rw[e2];have:=o7w hj.1 (rdL Ty.str d.1 j.toNat) d.2 d.1 none (fun p hp=>(k4 p hp).1.1) (by omega) rfl;show(rdL Ty.str (d.2.foldl s7t d.1) j.toNat,true)=_;rw[this];rfl
 .rfl
theorem o4e {d d' :u0j} {from_:Int} :∀(m i:Nat) (acc:Hs),(∀q:Nat,i<=q->q<i+m->u0k d' (from_+(q:Int))=u0k d (from_+(q:Int)))->q76 d' from_ m i acc=q76 d from_ m i acc
 | 0,i,acc,h=>rfl | m+1,i,acc,h=>by
  unfold q76;rw[h i (by omega) (by omega)];split
  .exact o4e m (i+1) _ (fun q h1 h2=>h q (by omega) (by omega))
  .rfl
theorem t5x {d d' :u0j} {o:Int} (h:∀q:Nat,q<48->u0k d' (u0d o+(q:Int))=u0k d (u0d o+(q:Int))):u0c d' o=u0c d o:=by
 have h1:t1h d' (u0d o+1) 47=t1h d (u0d o+1) 47:=by
  unfold t1h;rw[Al (by omega),Al (by omega)];refine o4e _ _ _ (fun q _ hq=> ?_);have:=h (q+1) (by simp at hq;omega);rw[show u0d o+1+(q:Int)=u0d o+((q+1:Nat):Int) by omega];exact this
 have h2:u0z d' o=u0z d o:=by
  unfold u0z u43;have:=h 0 (by omega);rw[show u0d o+((0:Nat):Int)=u0d o by omega] at this;rw[this]
 unfold u0c;rw[h1,h2]
def OnlyArea (a:Int) (d d' :u0j):Prop:= ∀j:Nat,¬(u0d a<=(j:Int)/\(j:Int)<u0d a+48)->u0k d' (j:Int)=u0k d (j:Int)
theorem OnlyArea.other {a o:Int} {d d' :u0j} (h:OnlyArea a d d') (ha:a=0\/a=1) (ho:o=1 - a):u0c d' o=u0c d o:=by
 refine t5x (fun q hq=> ?_);have hf:u0d o=1+o*48:=by unfold u0d;rw[Al (d2b.mpr (by omega))]
 have hfa:u0d a=1+a*48:=by unfold u0d;rw[Al (d2b.mpr ha)]
 obtain⟨j,hj⟩:∃j:Nat,u0d o+(q:Int)=(j:Int):=⟨(u0d o+(q:Int)).toNat,by rcases ha with rfl | rfl<;>omega⟩;rw[hj];exact h j (by rcases ha with rfl | rfl<;>omega)
theorem OnlyArea.trans {a:Int} {d d' e:u0j} (h1:OnlyArea a d d') (h2:OnlyArea a d' e):OnlyArea a d e:=fun j hj=>(h2 j hj).trans (h1 j hj)
theorem OnlyArea.flush {a:Int} {d d' :u0j} (h:OnlyArea a d d') (hk:u1u d' =true):OnlyArea a d (flush d'):=fun j hj=>(t7z hk _).trans (h j hj)
theorem q3r {d x:u0j} {s at_:Int} {t:Hs} (h:u7i d s at_ t=some x) {j:Nat} (hj: ¬(s<=(j:Int)/\(j:Int)*64<s*64+at_+(t.size:Int))):u0k x (j:Int)=u0k d (j:Int):=by
 unfold u7i at h;split at h
 .rename_i hc;simp only[Ai,r8x,Ar] at hc;refine q7v h (Ev _ (by omega)) j (fun z=>hj ?_);omega
 .cases h
theorem j78 {d x:u0j} {a:Int} {t:Hs} (h:t1k d a t=some x):OnlyArea a d x:=by
 have h0:=h;unfold t1k at h;split at h
 .cases h
 .rename_i hc;simp only[Hr] at hc;intro j hj;refine q3r h (fun z=>hj ?_);omega
theorem o7p {d x:u0j} {a n:Int} (h:r27 d a n=some x):OnlyArea a d x:=by
 intro j hj;refine q3r h (fun z=>hj ?_);rw[u2z] at z;omega
theorem d2s {d y:u0j} {a:Int} {t:Hs} (hlen:d.1.length=97) (h:p4i d a t=some y):OnlyArea a d y:=by
 unfold p4i at h;cases hb:t1k d a t with
 | none=>rw[hb] at h;cases h | some x=>
  rw[hb] at h;simp only[Dc,Ac] at h;obtain⟨z,hz,hz2,hz3⟩:=p3o (n:=s3k d a) hlen hb;rw[hz] at h;subst h;exact(((j78 hb).flush (s4d hb).2.1).trans (o7p hz)).flush hz2
structure Mid (o:Int) (x:u0j):Prop where
 ok:u1u x=true
 len:x.1.length=97
 nil:x.2= []
 other:(u0c x o).2.2=true
theorem Mid.isLog {a o:Int} {x:u0j} (h:Mid o x) (ha:a=0\/a=1) (ho:o=1 - a):u2s x=(u0c x a).2.2:=by
 unfold u2s;have hl:decide (x.2.length=0)=true:=by rw[h.nil];rfl
 rw[h.ok,hl];have hlen:decide (x.1.length=97)=true:=by rw[h.len];rfl
 rw[hlen];have hot:=h.other;rcases ha with rfl | rfl
 .have:o=1:=by omega
  subst this;rw[hot];simp
 .have:o=0:=by omega
  subst this;rw[hot];simp
theorem Mid.put {a o:Int} {x y:u0j} {t:Hs} (h:Mid o x) (ha:a=0\/a=1) (ho:o=1 - a) (hp:p4i x a t=some y):Mid o y:=by
 obtain⟨_,_,_,p1,p2,p3,_⟩:=j7h h.len hp;exact⟨p1,p3,p2,by rw[(d2s h.len hp).other ha ho];exact h.other⟩
theorem Mid.record {a o:Int} {x:u0j} {t:Hs} (h:Mid o x) (ha:a=0\/a=1) (ho:o=1 - a):(if u2s x then p4i x a t else none)=p4i x a t:=by
 rw[h.isLog ha ho];cases hr:(u0c x a).2.2 with
 | true=>simp | false=>
  have:p4i x a t=none:=by
   unfold p4i;cases hb:t1k x a t with
   | none=>rfl | some z=>rw[(s4d hb).2.2.2] at hr;cases hr
  simp[this]
def r3a (a:Int):Hu Hs->u0j->Ht u0j
 | [],x=>some x | t::l,x=>(p4i x a t).bind (r3a a l)
theorem o7t {a o:Int} (ha:a=0\/a=1) (ho:o=1 - a):∀ {l:Hu Hs} {x y:u0j},Mid o x->r3a a l x=some y->Mid o y
 | [],x,y,h,hy=>by cases hy;exact h
 | t::l,x,y,h,hy=>by
  unfold r3a at hy;cases hp:p4i x a t with
  | none=>rw[hp] at hy;cases hy | some z=>
   rw[hp] at hy;exact o7t ha ho (h.put ha ho hp) hy
theorem j3k {a o:Int} (ha:a=0\/a=1) (ho:o=1 - a) (d jk:u0j) (hd:c1c.wt d<=10000000) (list:Hu Hs) (hl:list.length<=1048576) (hs:∀t∈list,t.size<=1048576):∀(r i:Nat) (x:u0j),i+r=list.length->Mid o x->
 t0t (d,jk,a,x,list,(list.length:Int),(i:Int))=some (match r3a a (list.drop i) x with
  | some y=> .inl (jk,y) | none=> .inr (d,false))
 | 0,i,x,hi,hm=>by
  have:i=list.length:=by omega
  subst this;rw[r4e];simp only[t6e,u0b,Am,Ah,Aa,F5,r3a]
 | r+1,i,x,hi,hm=>by
  have h:i<list.length:=by omega
  have hw:=u2q hm.ok;have hts:=hs list[i] (Ag h);have hr:rdL Ty.str list i=list[i] :=y9a (t:=Ty.str) h;rw[r4e,Ce h];simp only[t6e,u0b,h,Ae,Ad,y8h h,zTn,hr,q8c x a list[i] (by omega) hts,hm.record ha ho,u9j d (by unfold u0i;omega),zOb,r3a];rw[y7x (by omega)];cases hp:p4i x a list[i] with
  | none=>simp[orD] | some y=>
   simp only[orD,Ap,Aa,zOb];exact j3k ha ho d jk hd list hl hs r (i+1) y (by omega) (hm.put ha ho hp)
theorem j3m {a o:Int} (ha:a=0\/a=1) (ho:o=1 - a) (jk:u0j) (list:Hu Hs) (hl:list.length<=1048576) (hs:∀t∈list,t.size<=1048576):∀(r i:Nat) (x:u0j),i+r=list.length->Mid o x->
 ∃q,t44 (list,jk,a,x,true,(i:Int))=some (.inl (jk,q))/\(match r3a a (list.drop i) x with
  | some y=>q=(y,true) | none=>q.2=false)
 | 0,i,x,hi,hm=>by
  have:i=list.length:=by omega
  subst this;rw[s8p];simp only[t4l,u0b,Am,Ah,Aa,F5,r3a,zOb];exact⟨_,rfl,rfl⟩
 | r+1,i,x,hi,hm=>by
  have h:i<list.length:=by omega
  have hw:=u2q hm.ok;have hts:=hs list[i] (Ag h);have hr:rdL Ty.str list i=list[i] :=y9a (t:=Ty.str) h;rw[s8p,Ce h];simp only[t4l,u0b,h,Ae,Ad,y8h h,zTn,hr,j3v x a list[i] (by omega) hts hm.len,zOb,r3a];rw[y7x (by omega)];cases hp:p4i x a list[i] with
  | none=>
   simp only[orD,Option.bind_none];rw[s8p];simp only[t4l,u0b];cases decide (i+1<list.length)<;>exact⟨_,rfl,rfl⟩
  | some y=>
   simp only[orD,zOb];exact j3m ha ho jk list hl hs r (i+1) y (by omega) (hm.put ha ho hp)
def u7f (d:u0j):Int:=1 - u0n d
theorem s3l (d:u0j):(u7f d=0\/u7f d=1)/\u0n d=1 - u7f d:=by
 unfold u7f;have:=t7u d;omega
def s75 (d:u0j):u0j:=flush (orD d (r27 d (u7f d) 0)).1
def r9d (d:u0j) (l:Hu Hs):Ht u0j:=if u2s d then r3a (u7f d) l (s75 d) else none
def j6e (x:u0j):Ht u0j:=u7i x 0 0 (t97 (i64.wrap (u43 x 0+1)))
def r50 (d:u0j) (l:Hu Hs):Ht u0j:=(r9d d l).map fun x=>flush (orD x (j6e x)).1
theorem o1f {d:u0j} (hl:u2s d=true) (a n:Int):∃z,r27 d a n=some z/\u1u z=true/\z.1.length=97:=by
 obtain⟨h1,h2,h3,_⟩:=u53 hl;have ha:=s3i a;have ho:=p1v (s:=u0d a) h1 h3 (by omega) (by omega) (u2z n);have:=t09 ho;exact⟨_,ho,this.2.1,by rw[this.2.2];exact h2⟩
theorem o3g {d:u0j} (hl:u2s d=true):Mid (u0n d) (s75 d):=by
 obtain⟨z,hz,hz2,hz3⟩:=o1f hl (u7f d) 0;obtain⟨a1,a2⟩:=s3l d;obtain⟨h1,h2,h3,h4,h5⟩:=u53 hl;obtain⟨f1,f2,f3⟩:=s2m hz2;have e:s75 d=flush z:=by unfold s75;rw[hz];rfl
 have hr:(u0c d (u0n d)).2.2=true:=by
  rcases t7u d with h | h<;>rw[h] <;>assumption
 rw[e];exact⟨f1,by rw[f3];exact hz3,f2,by rw[((o7p hz).flush hz2).other a1 a2];exact hr⟩
theorem d02 {x:u0j} {o:Int} (h:Mid o x):∃y,j6e x=some y/\u1u y=true:=by
 have ho:=p1v (s:=0) h.ok h.nil (by omega) (by rw[h.len];omega) (u2z (i64.wrap (u43 x 0+1)));exact⟨_,ho,(t09 ho).2.1⟩
section
variable {d:u0j} {l:Hu Hs} (hd:c1c.wt d<=10000000) (hl:l.length<=1048576) (hs:∀t∈l,t.size<=1048576)
include hd hl hs
omit hd hl hs in
theorem d08:i64.wrap ((1:Int) - u0n d)=u7f d:=by
 unfold u7f;have:=t7u d;rw[y5f (by omega) (by omega)]
omit hd hl hs in
theorem j3l {x:u0j} (h:r9d d l=some x):u2s d=true/\Mid (u0n d) x:=by
 unfold r9d at h;split at h
 .rename_i hlo;obtain⟨a1,a2⟩:=s3l d;exact⟨hlo,o7t a1 a2 (o3g hlo) h⟩
 .cases h
theorem o61:s8f (d,l)=some (orD d (r9d d l)):=by
 rw[p9a];unfold q0s r9d;simp only[p5f d (by omega),u9j d (by unfold u0i;omega),s9d d (by unfold u0i;omega),d08 (d:=d),p1w d _ _ (by omega),zOb];cases hlo:u2s d with
 | false=>simp[orD] | true=>
  obtain⟨z,hz,hz2,hz3⟩:=o1f hlo (u7f d) 0;have hzw:=u2q hz2;obtain⟨a1,a2⟩:=s3l d;have e:flush z=s75 d:=by unfold s75;rw[hz];rfl
  have L:=j3k a1 a2 d ([], []) hd l hl hs l.length 0 (s75 d) (by omega) (o3g hlo);have L:t0t (d,([], []),u7f d,s75 d,l,(l.length:Int),0)=_:=L;simp only[Ap,Aa,hz,orD,s0i z (by omega),zOb,e,L,Fh,Bl];cases r3a (u7f d) l (s75 d)<;>rfl
theorem j3u (hlo:u2s d=true):∃q,r5u (d,l)=some q/\(match r9d d l with
 | some y=>q=(y,true) | none=>q.2=false):=by
 obtain⟨z,hz,hz2,hz3⟩:=o1f hlo (u7f d) 0;have hzw:=u2q hz2;obtain⟨a1,a2⟩:=s3l d;have e:flush z=s75 d:=by unfold s75;rw[hz];rfl
 obtain⟨q,L,hq⟩:=j3m a1 a2 ([], []) l hl hs l.length 0 (s75 d) (by omega) (o3g hlo);have L:t44 (l,([], []),u7f d,s75 d,true,0)=_:=L;rw[Fh] at hq;refine⟨q,?_,by unfold r9d;rw[hlo,Al rfl];exact hq⟩;rw[o6m];unfold q9t;simp only[s9e d (by unfold u0i;omega),d08 (d:=d),p1r d _ _ (by omega),zOb,hz,orD,s0j z (by omega),e,L]
omit hd hl hs in
theorem j4n (x:u0j) (hx:c1c.wt x<=10000000):s8g x=some (orD x (j6e x)).1:=by
 rw[p9f];unfold q0x;have h1:y7s [u8.wrap (i64.wrap (u43 x 0+1))] =t97 (i64.wrap (u43 x 0+1)):=rfl;simp only[r48 x 0 (by unfold u0i;omega),zOb,h1,s99 x 0 0 (t97 (i64.wrap (u43 x 0+1))) (by omega) (by rw[u2z];omega) (by rw[u2z];omega)];rfl
omit hd hl hs in
theorem j8k (x:u0j) (hx:c1c.wt x<=10000000):r5v x=some (orD x (j6e x)):=by
 rw[o6n];unfold q9u;have h1:∀n,s43 n=some (t97 n):=fun n=>by rw[p36];rfl
 simp only[q54 x 0 (by unfold u0i;omega),h1,zOb,r0a x 0 0 (t97 (i64.wrap (u43 x 0+1))) (by omega) (by rw[u2z];omega)];rfl
theorem o41:s8b (d,l)=some (orD d (r50 d l)):=by
 rw[p84];unfold q0n r50;simp only[o61 hd hl hs,zOb];cases hf:r9d d l with
 | none=>rfl | some x=>
  obtain⟨hlo,hm⟩:=j3l hf;have hx:=u2q hm.ok;obtain⟨y,hy,hy2⟩:=d02 hm;have hyw:=u2q hy2;simp only[orD,Ap,Aa,j4n x (by omega),hy,zOb,s0i y (by omega),Dc]
theorem o42:s8k (d,l)=some (orD d (r50 d l)):=by
 rw[p9u];unfold q1b r50;simp only[p5g d (by omega),u9k d (by unfold u0i;omega),zOb];cases hlo:u2s d with
 | false=>
  have:r9d d l=none:=by unfold r9d;rw[hlo];rfl
  rw[this];rfl
 | true=>
  obtain⟨q,hq,hq2⟩:=j3u hd hl hs hlo;simp only[Ap,Aa,hq,zOb];cases hf:r9d d l with
  | none=>
   rw[hf] at hq2;simp only at hq2;simp only[hq2,Bh,Ad];rfl
  | some x=>
   rw[hf] at hq2;simp only at hq2;subst hq2;obtain⟨_,hm⟩:=j3l hf;have hx:=u2q hm.ok;obtain⟨y,hy,hy2⟩:=d02 hm;have hyw:=u2q hy2;simp only[orD,Ap,Aa,j8k x (by omega),hy,zOb,s0j y (by omega),Dc]
def t7v (d:u0j) (l:Hu Hs) (step:Int) (keep:Hu Int) (tear:Int):u0j:=
 match r9d d l with
 | none=>d | some x=>
  if step=0 then t2i (orD d (r27 d (u7f d) 0)).1 keep tear
  else if step=1 then x
  else if step=2 then t2i (orD x (j6e x)).1 keep tear
  else flush (orD x (j6e x)).1
end
def s8y (s:Hs) (i:Nat):UInt8:=s.data.toList.getD i 0
theorem u8j (a b:Hs) (i:Nat):s8y (a++b) i=if i<a.size then s8y a i else s8y b (i - a.size):=by
 unfold s8y;have hs:a.size=a.data.toList.length:=by simp only[B6];rfl
 rw[Ft,Ha,A5,hs];split
 .rename_i h;rw[Aj h,A5]
 .rename_i h;rw[Aq (Fz h),A5]
theorem u3w (a:Hs) (b e i:Nat):s8y (a.extract b e) i=if i<min e a.size - b then s8y a (b+i) else 0:=by
 unfold s8y;have hd:(a.extract b e).data.toList=(a.data.toList.drop b).take (min e a.size - b):=by
  have hs:a.size=a.data.toList.length:=by simp only[B6];rfl
  rw[ByteArray.data_extract];rw[Array.toList_extract,F7];apply Gj;intro n;rw[Ca,Ca,Dg];split<;>split<;>first | rfl | skip
  .rename_i h1 h2;rw[Be (by omega)]
  .rename_i h1 h2;rw[Be (by omega)]
 rw[hd,A5,Ca];split
 .rw[Dg,A5]
 .rfl
theorem p4a {a b:Hs} (hs:a.size=b.size) (h:∀i,i<a.size->s8y a i=s8y b i):a=b:=by
 have ha:a.size=a.data.toList.length:=by simp only[B6];rfl
 have hb:b.size=b.data.toList.length:=by simp only[B6];rfl
 have:a.data.toList=b.data.toList:=by
  apply Gw (by omega);intro i h1 h2;have:=h i (by omega);unfold s8y at this;rw[A5,A5,A4 h1,A4 h2] at this;exact this
 apply Gf;apply Fj;exact this
theorem j1a {d x:u0j} {k:Int} {s:Hs} (h:u6y d k s=some x):u0k x k=(s,true):=by
 obtain⟨h1,h2⟩:=t8j h;obtain⟨_,_,_,h4⟩:=o7r.mp h1;subst h2;have:=(h4 (k,s) (by simp)).1;have hk:0<=k/\k<(d.1.length:Int):=this;unfold u0k;simp only[q6k];rw[Al hk];simp
theorem o8l:∀ {f:Nat} {d x:u0j} {k at_:Nat} {t:Hs},p98 f d k at_ t=some x->t.size<f->at_<64-> ∀(j i:Nat),i<64->j<d.1.length->
 s8y (u0k x (j:Int)).1 i=if k*64+at_<=j*64+i/\j*64+i<k*64+at_+t.size then s8y t (j*64+i - (k*64+at_)) else s8y (u0k d (j:Int)).1 i
 | 0,d,x,k,at_,t,h,hf,_,j,i,_,_=>by omega
 | f+1,d,x,k,at_,t,h,hf,hat,j,i,hi,hj=>by
  rw[p98] at h;split at h
  .rename_i hz;cases h;rw[Ao (by omega)]
  .rename_i hz;split at h
   .rename_i hrd;cases hw:u6y d (k:Int) ((u0k d (k:Int)).1.extract 0 at_++t.extract 0 (min t.size (64 - at_))++(u0k d (k:Int)).1.extract (at_+min t.size (64 - at_)) 64) with
    | none=>rw[hw] at h;cases h | some y=>
     rw[hw] at h;simp only[zOb] at h;obtain⟨n,hn⟩:∃n,n=min t.size (64 - at_):=⟨_,rfl⟩;rw[←hn] at h hw;have hyl:y.1.length=d.1.length:=by rw[(t8j hw).2]
     have hsz:(t.extract n t.size).size=t.size - n:=by rw[Bd];omega
     have ih:=o8l h (by omega) (by omega) j i hi (by omega);rw[ih,hsz];by_cases hjk:j=k
     .subst hjk;rw[Ao (by omega),j1a hw];simp only;rw[u8j,u8j,u3w,u3w,u3w];simp only[Af,Bd,hrd.2];by_cases h1:i<at_
      .have e1:i<min at_ 64 - 0:=by omega
       rw[Al (by omega),Al e1,Al e1,Ao (by omega),Co]
      .by_cases h2:i<at_+n
       .rw[Al (by omega),Ao (by omega),Al (by omega),Al (by omega)];congr 1;omega
       .rw[Ao (by omega),Al (by omega),Ao (by omega)];congr 1;omega
     .have hfr:u0k y (j:Int)=u0k d (j:Int):=p09 hw (by omega);rw[hfr];by_cases h1:(k+1)*64+0<=j*64+i/\j*64+i<(k+1)*64+0+(t.size - n)
      .rw[Al h1,Al (by omega),u3w,Al (by omega)];congr 1;omega
      .rw[Ao h1,Ao (by omega)]
   .cases h
theorem j4l (a:Hs):a.size=a.data.toList.length:=by simp only[B6];rfl
theorem p4b {a:Hs} {i:Nat} (h:i<a.size):a.data.toList[i]? =some (s8y a i):=by
 unfold s8y;rw[j4l] at h;rw[A5,A4 h];rfl
theorem o4o:∀ {f i n:Nat} {l l' :Hu UInt8} {v k:Nat},r92 f i n l=some (v,k)->(∀q,q<k - i->l'[q]? =l[q]?)->r92 f i n l' =some (v,k)
 | 0,_,_,_,_,_,_,h,_=>by cases h
 | _+1,_,_, [],_,_,_,h,_=>by cases h
 | f+1,i,n,b::l,l',v,k,h,hl=>by
  have hk:=(j08 _ _ _ _ _ _ h).2.2;have h0:=hl 0 (by omega);cases l' with
  | nil=>simp at h0 | cons b' l' =>
   simp only[Bt,Ac] at h0;subst h0;simp only[r92] at h ⊢;split at h
   .rename_i h1;rw[Al h1];exact h
   .rename_i h1;rw[Ao h1];exact o4o h (fun q hq=>by have:=hl (q+1) (by omega);simpa using this)
theorem j01 {T T' :Hs} {at_:Int} (h:(u0x T at_).2.2=true) (hs:T'.size=T.size) (hb:∀q:Nat,(q:Int)<(u0x T at_).2.1->s8y T' q=s8y T q):u0x T' at_=u0x T at_:=by
 have hok:=s3o h;unfold u0x at h hb hok ⊢;split at h
 .rename_i hc;rw[Al hc] at hb hok;rw[Al (by rw[hs];exact hc),Al hc];cases hv:r92 5 0 0 (T.data.toList.drop at_.toNat) with
  | none=>rw[hv] at h;cases h | some r=>
   obtain⟨v,k⟩:=r;rw[hv] at hb hok;simp only[p4y] at hb hok;rw[o4o hv (fun q hq=>by
    have hlt:at_.toNat+q<T.size:=by omega
    rw[Dg,Dg,p4b (by omega),p4b hlt,hb (at_.toNat+q) (by omega)])]
 .cases h
theorem p0v {T:Hs} {at_:Int} (h:(u0p T at_).2.2=true):0<=at_/\at_<(u0p T at_).2.1/\(u0p T at_).2.1<=T.size:=by
 have h2:=q6x h;unfold u0p at h h2 ⊢;split at h
 .rename_i hc;rw[Al hc] at h2;rw[Al hc];have:=s3o hc.1;simp only at h2 ⊢;omega
 .cases h
theorem o38 {T T' :Hs} {at_:Int} (h:(u0p T at_).2.2=true) (hs:T'.size=T.size) (hb:∀q:Nat,(q:Int)<(u0p T at_).2.1->s8y T' q=s8y T q):u0p T' at_=u0p T at_:=by
 have hn:=p0v h;unfold u0p at h hb hn ⊢;split at h
 .rename_i hc;rw[Al hc] at hb hn;simp only at hb hn;have hok:=s3o hc.1;have e:u0x T' at_=u0x T at_:=j01 hc.1 hs (fun q hq=>hb q (by omega));rw[e,Al (by rw[hs];exact hc),Al hc];congr 1;apply p4a
  .rw[Bd,Bd,hs]
  .intro i hi;rw[Bd] at hi;rw[u3w,u3w,hs];split
   .exact hb _ (by omega)
   .rfl
 .cases h
theorem o7l {T:Hs} :∀ {m:Nat} {at_:Int} {acc l:Hu Hs} {E:Int},u89 T m at_ acc=(l,E,true)->at_<=E
 | 0,at_,acc,l,E,h=>by unfold u89 at h;cases h;exact Bv _
 | m+1,at_,acc,l,E,h=>by
  unfold u89 at h;split at h
  .rename_i hc;simp only[Ai] at hc;have h1:=(p0v hc.1).2.1;have h2:=o7l h;omega
  .cases h
theorem q5x {T T' :Hs} (hs:T'.size=T.size):∀ {m:Nat} {at_:Int} {acc l:Hu Hs} {E:Int},u89 T m at_ acc=(l,E,true)->(∀q:Nat,(q:Int)<E->s8y T' q=s8y T q)->u89 T' m at_ acc=(l,E,true)
 | 0,at_,acc,l,E,h,_=>by unfold u89 at h ⊢;exact h
 | m+1,at_,acc,l,E,h,hb=>by
  unfold u89 at h ⊢;split at h
  .rename_i hc;have hc' :=hc;simp only[Ai] at hc';have h2:=o7l h;rw[o38 hc'.1 hs (fun q hq=>hb q (by omega)),Al hc];exact q5x hs h hb
  .cases h
theorem o09 {T:Hs} {s:Hs} {nx:Int} :∀ {m:Nat} {at_:Int} {acc l:Hu Hs} {E:Int},u89 T m at_ acc=(l,E,true)->u0p T E=(s,nx,true)->s.size≠0->u89 T (m+1) at_ acc=(l++ [s],nx,true)
 | 0,at_,acc,l,E,h,hr,hne=>by
  unfold u89 at h;cases h;unfold u89;have:z7q s emp=false:=by
   have:=r35 (t:=s);rw[j95] at this;rw[this];simpa using hne
  rw[hr];simp only[this,Bh,Dt,Bl];rfl
 | m+1,at_,acc,l,E,h,hr,hne=>by
  unfold u89 at h;split at h
  .rename_i hc;unfold u89;rw[Al hc];exact o09 h hr hne
  .cases h
def u8s (l:Hu Int):Hu UInt8:=l.map fun n=>UInt8.ofNat n.toNat
theorem p6o:∀(f i acc n N:Nat) (r:Hu UInt8),0<f->n<128^f->acc+n*128^i=N->N<=1000000000->(s88 N).length=i+(s88 n).length->r92 f i acc (u8s (s88 n)++r)=some (N,i+(s88 n).length)
 | 0,i,acc,n,N,r,hf,_,_,_,_=>by omega
 | f+1,i,acc,n,N,r,_,hn,hN,hb,hl=>by
  by_cases h:n<128
  .rw[q62 h] at hl ⊢;have e:(UInt8.ofNat ((n:Int)).toNat).toNat=n:=by
    rw[zTn,Gg];omega
   simp only[u8s,C8,Eh,Ef,Cf,r92,e,h,Bl,Aw] at hl ⊢;rw[Nat.mod_eq_of_lt h,hN,Al ⟨hb,hl⟩]
  .rw[p6n h] at hl ⊢;have e:(UInt8.ofNat (((n % 128+128:Nat):Int)).toNat).toNat=n % 128+128:=by
    rw[zTn,Gg];omega
   have hh: ¬n % 128+128<128:=by omega
   simp only[u8s,C8,Ef,r92,e,hh,Bk,Bc] at hl ⊢;have e2:(n % 128+128) % 128=n % 128:=by omega
   rw[e2];have:=p6o f (i+1) (acc+n % 128*128^i) (n / 128) N r (by rcases f with _ | f<;>simp at hn ⊢;omega) (by rw[Gr] at hn;omega) (by
    rw[←hN,Gr];have:n=n % 128+128*(n / 128):=by omega
    conv=>rhs;rw[this]
    rw[Cl];have:n / 128*(128^i*128)=128*(n / 128)*128^i:=by rw[Fk (128^i) 128,←Nat.mul_assoc,Fk (n / 128) 128]
    omega) hb (by omega)
   show r92 f (i+1) (acc+n % 128*128^i) (u8s (s88 (n / 128))++r)=_;rw[this];congr 2;omega
theorem r1r (l:Hu Int):(y7s l).data.toList=u8s l:=by
 unfold y7s u8s;simp
theorem p6i {T t:Hs} {E:Nat} (h0:t.size≠0) (h1:t.size<=3008) (hE:E+(u0u t).size<=T.size) (hb:∀q,q<(u0u t).size->s8y T (E+q)=s8y (u0u t) q):
 u0p T (E:Int)=(t,((E+(u0u t).size:Nat):Int),true):=by
 have hsz:(u0u t).size=(s88 t.size).length+t.size:=by unfold u0u;rw[Af,u58]
 have hlist:(u0u t).data.toList=u8s (s88 t.size)++t.data.toList:=by
  unfold u0u;rw[Ft,Ha,r1r]
 have hdrop:∃r,T.data.toList.drop E=u8s (s88 t.size)++r:=by
  refine⟨(T.data.toList.drop E).drop (u8s (s88 t.size)).length,?_⟩;have:(T.data.toList.drop E).take (u8s (s88 t.size)).length=u8s (s88 t.size):=by
   apply Gj;intro q;rw[Ca];split
   .rename_i hq;have hq' :q<(s88 t.size).length:=by simpa[u8s] using hq
    rw[Dg,p4b (by omega),hb q (by omega),←p4b (by omega),hlist,Aj hq]
   .rename_i hq;rw[Be (Fz hq)]
  conv=>lhs;rw[←En (u8s (s88 t.size)).length (T.data.toList.drop E)]
  rw[this]
 obtain⟨r,hr⟩:=hdrop;have hv:=p6o 5 0 0 t.size t.size r (by omega) (by omega) (by simp) (by omega) (by omega);have hread:u0x T (E:Int)=((t.size:Int),(E:Int)+((s88 t.size).length:Int),true):=by
  unfold u0x;rw[Al (by omega),zTn,hr,hv];simp[p4y]
 unfold u0p;rw[hread];simp only;rw[Al (by simp only[true_and];omega)];have e1:((E:Int)+((s88 t.size).length:Int)).toNat=E+(s88 t.size).length:=by omega
 have e2:((E:Int)+((s88 t.size).length:Int)+(t.size:Int)).toNat=E+(s88 t.size).length+t.size:=by omega
 rw[e1,e2];have et:T.extract (E+(s88 t.size).length) (E+(s88 t.size).length+t.size)=t:=by
  apply p4a
  .rw[Bd];omega
  .intro i hi;rw[Bd] at hi;rw[u3w,Al (by omega)];have:=hb ((s88 t.size).length+i) (by omega);rw[show E+(s88 t.size).length+i=E+((s88 t.size).length+i) by omega,this];unfold u0u;rw[u8j,Ao (by rw[u58];omega),u58];congr 1;omega
 rw[et];congr 2;rw[hsz];omega
def c04 (d:u0j):Prop:= ∀k:Nat,k<97->(u0k d (k:Int)).2=true/\(u0k d (k:Int)).1.size=64
theorem r0o {d:u0j} (hk:u1u d=true) (hl:d.1.length=97):c04 d:=by
 intro k hlt;obtain⟨k1,k2,k3,k4⟩:=o7r.mp hk;have hc:(0:Int)<=(k:Int)/\(k:Int)<(d.1.length:Int):=by omega
 unfold u0k;rw[Al hc];refine⟨rfl,?_⟩;cases hp:t56 d.2 (k:Int) with
 | none=>
  have hlt' :k<d.1.length:=by omega
  have e:rdL Ty.str d.1 k=d.1[k] :=y9a (t:=Ty.str) hlt';simp only[Eo,zTn];rw[e];exact k3 _ (Ag hlt')
 | some s=>
  obtain⟨p,hp1,hp2⟩:=p1s hp;simp only[Eb];rw[←hp2];exact(k4 p hp1).2
theorem o4d {d:u0j} {F:Nat} (h:∀q:Nat,q<47->(u0k d ((F+q:Nat):Int)).2=true/\(u0k d ((F+q:Nat):Int)).1.size=64):∀(m i:Nat) (acc:Hs),i+m<=47->
 ∃T,q76 d (F:Int) m i acc=(T,true)/\T.size=acc.size+64*m/\ ∀j,j<T.size->s8y T j=if j<acc.size then s8y acc j else s8y (u0k d ((F+i+(j - acc.size) / 64:Nat):Int)).1 ((j - acc.size) % 64)
 | 0,i,acc,_=>⟨acc,rfl,by omega,fun j hj=>by rw[Al hj]⟩ | m+1,i,acc,hm=>by
  have hq:=h i (by omega);have e:(F:Int)+(i:Int)=((F+i:Nat):Int):=by omega
  obtain⟨T,t1,t2,t3⟩:=o4d h m (i+1) (acc++(u0k d ((F+i:Nat):Int)).1) (by omega);refine⟨T,?_,?_,fun j hj=> ?_⟩
  .unfold q76;rw[e,Al hq.1];exact t1
  .rw[t2,Af,hq.2];omega
  .rw[t3 j hj,Af,hq.2,u8j];by_cases h1:j<acc.size
   .rw[Al (by omega),Al h1,Al h1]
   .rw[Ao h1,Ao h1];by_cases h2:j<acc.size+64
    .rw[Al h2];have z1:(j - acc.size) / 64=0:=by omega
     have z2:(j - acc.size) % 64=j - acc.size:=by omega
     rw[z1,z2,Df]
    .rw[Ao h2];have z1:F+(i+1)+(j - (acc.size+64)) / 64=F+i+(j - acc.size) / 64:=by omega
     have z2:(j - (acc.size+64)) % 64=(j - acc.size) % 64:=by omega
     rw[z1,z2]
def s8x (a:Int):Nat:=(u0d a+1).toNat
def r89 (d:u0j) (a:Int):Hs:=(t1h d (u0d a+1) 47).1
theorem u79 {d:u0j} (hf:c04 d) {a:Int} (ha:a=0\/a=1):t1h d (u0d a+1) 47=(r89 d a,true)/\(r89 d a).size=3008/\ ∀j,j<3008->s8y (r89 d a) j=s8y (u0k d ((s8x a+j / 64:Nat):Int)).1 (j % 64):=by
 have hfa:u0d a=1+a*48:=by unfold u0d;rw[Al (d2b.mpr ha)]
 have hF:(u0d a+1:Int)=((s8x a:Nat):Int):=by unfold s8x;rcases ha with rfl | rfl<;>omega
 have hb:s8x a+47<=97:=by unfold s8x;rcases ha with rfl | rfl<;>omega
 obtain⟨T,t1,t2,t3⟩:=o4d (d:=d) (F:=s8x a) (fun q hq=>hf (s8x a+q) (by omega)) 47 0 emp (by omega);have he:emp.size=0:=rfl;have hs:t1h d (u0d a+1) 47=(T,true):=by
  unfold t1h;rw[Al (by omega),hF];exact t1
 have hT:r89 d a=T:=by unfold r89;rw[hs]
 rw[hT];rw[he] at t2 t3;refine⟨hs,by omega,fun j hj=> ?_⟩;rw[t3 j (by omega),Ao (by omega),Df,Nat.sub_zero]
theorem t4d {d:u0j} (hf:c04 d) {a:Int} (ha:a=0\/a=1):u0c d a=u89 (r89 d a) (u0z d a).toNat 0 [] :=by
 have h:=(u79 hf ha).1;have hi:j0q a=true:=d2b.mpr ha;unfold u0c;rw[h,hi];rfl
theorem j6v {a b:Hs} (h:a.data.toList=b.data.toList):a=b:=by
 apply Gf;exact Array.toList_inj.mp h
theorem o1a (a b:Hs):(a++b).data.toList=a.data.toList++b.data.toList:=by rw[Ft,Ha]
theorem t1x (a b c:Hs):a++b++c=a++(b++c):=j6v (by simp only[o1a,Bi])
theorem j5u (a:Hs):emp++a=a:=j6v (by rw[o1a];rfl)
theorem j5l (a:Hs):a++emp=a:=j6v (by rw[o1a];simp[emp])
theorem p1d (a:Hs):a.size=a.data.toList.length:=j4l a
def q63 (n:Int):Hs:=y7s (s88 n.toNat)
def j5m (b:Bool):Hs:=y7s [if b then 1 else 0]
def q3v {E:Type} (f:E->Hs) (l:Hu E):Hs:=l.foldl (fun s x=>s++f x) emp
def j40 (r:s5b):Hs:=u0u r.1++u0u r.2
def wrT (w:WrT):Hs:=u0u w.1++(u0u w.2.1++j5m w.2.2)
def j4r (v:u4n):Hs:=u0u v.1++(u0u v.2.1++(j5m v.2.2.1++q63 v.2.2.2))
def t8g (t:u0e):Hs:=
 q63 t.1++(q63 t.2.1++(q63 t.2.2.1++(q63 t.2.2.2.1++(q63 (t.2.2.2.2.1.length:Int)++(q3v j40 t.2.2.2.2.1++(q63 (t.2.2.2.2.2.1.length:Int)++(q3v wrT t.2.2.2.2.2.1++(j5m t.2.2.2.2.2.2.1++u0u t.2.2.2.2.2.2.2))))))))
def r72 (l:Hu u0e):Hs:=q63 (l.length:Int)++q3v t8g l
def s7c (b:u0m):Hs:=q63 b.2.2.2.1++(q63 b.2.2.2.2++(q63 (b.1.length:Int)++(q3v j4r b.1++(r72 b.2.1++r72 b.2.2.1))))
theorem p3m {E:Type} (f:E->Hs):∀(l:Hu E) (s:Hs),l.foldl (fun s x=>s++f x) s=s++q3v f l
 | [],s=>(j5l s).symm | x::l,s=>by
  rw[Bs,p3m f l];unfold q3v;rw[Bs,p3m f l (emp++f x),j5u,t1x];rfl
theorem r0k {E:Type} (f:E->Hs) (x:E) (l:Hu E):q3v f (x::l)=f x++q3v f l:=by
 unfold q3v;rw[Bs,p3m,j5u];rfl
theorem o9d {E:Type} (f:E->Hs):q3v f [] =emp:=rfl
def s0k (T:Hs) (a:Nat) (s:Hs):Prop:= ∃r,T.data.toList.drop a=s.data.toList++r
theorem d6s {T:Hs} {a:Nat} {s u:Hs} :s0k T a (s++u)↔s0k T a s/\s0k T (a+s.size) u:=by
 unfold s0k;rw[o1a,p1d s];constructor
 .rintro⟨r,h⟩
  refine⟨⟨u.data.toList++r,by rw[h,Bi]⟩,r,?_⟩;rw[←Gl,h,Bi,Hg]
 .rintro⟨⟨r,h⟩,r',h'⟩
  rw[←Gl,h,Hg] at h';exact⟨r',by rw[h,h',Bi]⟩
theorem p4r {T:Hs} {a:Nat} {s:Hs} (h:s0k T a s) (hs:s.size≠0):a+s.size<=T.size:=by
 obtain⟨r,h⟩:=h;have:=Dj List.length h;rw[F0,Ba,←p1d,←p1d] at this;omega
theorem j8q {a s b:Hs} :s0k (a++s++b) a.size s:=⟨b.data.toList,by rw[o1a,o1a,p1d,Bi,Hg]⟩
theorem r1t (n:Int):(q63 n).size=(s88 n.toNat).length:=u58 _
theorem p4x (n:Nat):0<(s88 n).length:=by
 by_cases h:n<128
 .rw[q62 h];simp
 .rw[p6n h];simp
theorem p0w {T:Hs} {a:Nat} {n:Int} (h0:0<=n) (hn:n<=1000000000) (h:s0k T a (q63 n)):u0x T (a:Int)=(n,((a+(q63 n).size:Nat):Int),true):=by
 have hle:=p4r h (by rw[r1t];have:=p4x n.toNat;omega);obtain⟨r,h⟩:=h;unfold q63 at h;rw[r1r] at h;have hv:=p6o 5 0 0 n.toNat n.toNat r (by omega) (by omega) (by simp) (by omega) (by omega);unfold u0x;rw[Al (by omega),zTn,h,hv];simp only[p4y];rw[r1t];congr 1
 .omega
 .congr 1;omega
theorem p93 {T:Hs} {a:Nat} {s:Hs} (hs:s.size<=20000) (h:s0k T a (u0u s)):u0p T (a:Int)=(s,((a+(u0u s).size:Nat):Int),true):=by
 have e:u0u s=q63 (s.size:Int)++s:=rfl;rw[e] at h;obtain⟨h1,h2⟩:=d6s.mp h;have hv:=p0w (by omega) (by omega) h1;have hle1:=p4r h1 (by rw[r1t];have:=p4x (s.size:Int).toNat;omega);unfold u0p;rw[hv];have hle:a+(q63 (s.size:Int)).size+s.size<=T.size:=by
  by_cases q:s.size=0
  .omega
  .exact p4r h2 q
 rw[Al (by simp only[true_and];omega)];have hx:T.extract (((a+(q63 (s.size:Int)).size:Nat):Int)).toNat ((((a+(q63 (s.size:Int)).size:Nat):Int)+(s.size:Int))).toNat=s:=by
  rw[zTn,show(((a+(q63 (s.size:Int)).size:Nat):Int)+(s.size:Int)).toNat=a+(q63 (s.size:Int)).size+s.size by omega];rw[p7x _ _ _ hle];obtain⟨r,hr⟩:=h2;rw[hr,Nat.add_sub_cancel_left,p1d,List.take_left]
 simp only[hx];rw[e,Af];congr 2;omega
abbrev Cur:=Int×Bool
def u20 (s:Hs) (c:Cur):Int×Cur:=if c.2=true\/(u0x s c.1).2.2=false then(0,c.1,true) else((u0x s c.1).1,(u0x s c.1).2.1,false)
def u29 (s:Hs) (c:Cur):Hs×Cur:=if c.2=true\/(u0p s c.1).2.2=false then(emp,c.1,true) else((u0p s c.1).1,(u0p s c.1).2.1,false)
def u94 (s:Hs) (i:Nat):Nat:=(s.data.toList.getD i 0).toNat
def p48 (s:Hs) (c:Cur):Bool×Cur:=if c.2=true\/ ¬(0<=c.1/\c.1<(s.size:Int))\/1<u94 s c.1.toNat then(false,c.1,true) else(decide (u94 s c.1.toNat=1),c.1+1,false)
def u3b {E:Type} (f:Cur->E×Cur):Nat->Cur->Hu E->Hu E×Cur
 | 0,c,a=>(a,c) | n+1,c,a=>if c.2=true then(a,c) else u3b f n (f c).2 (a++ [(f c).1])
def j0x (s:Hs) (c:Cur):s5b×Cur:=(((u29 s c).1,(u29 s (u29 s c).2).1),(u29 s (u29 s c).2).2)
def rWr (s:Hs) (c:Cur):WrT×Cur:=
 (((u29 s c).1,(u29 s (u29 s c).2).1,(p48 s (u29 s (u29 s c).2).2).1),(p48 s (u29 s (u29 s c).2).2).2)
def j0z (s:Hs) (c:Cur):u4n×Cur:=
 let w:=rWr s c
 ((w.1.1,w.1.2.1,w.1.2.2,(u20 s w.2).1),(u20 s w.2).2)
def o0f (m:Nat) (s:Hs) (c:Cur):u0e×Cur:=
 let a:=u20 s c
 let b:=u20 s a.2
 let d:=u20 s b.2
 let e:=u20 s d.2
 let n:=u20 s e.2
 let rs:=u3b (j0x s) (min n.1.toNat m) n.2 []
 let k:=u20 s rs.2
 let ws:=u3b (rWr s) (min k.1.toNat m) k.2 []
 let o:=p48 s ws.2
 let nm:=u29 s o.2
 ((a.1,b.1,d.1,e.1,rs.1,ws.1,o.1,nm.1),nm.2)
theorem t4c {s:Hs} {c:Cur} (h:c.2=true):(u20 s c).2.2=true:=by unfold u20;rw[Al (.inl h)]
theorem r7z {s:Hs} {c:Cur} (h:c.2=true):(u29 s c).2.2=true:=by unfold u29;rw[Al (.inl h)]
theorem p4j {s:Hs} {c:Cur} (h:c.2=true):(p48 s c).2.2=true:=by unfold p48;rw[Al (.inl h)]
theorem s06 {E:Type} {f:Cur->E×Cur} {n:Nat} {c:Cur} {a:Hu E} (h:c.2=true):u3b f n c a=(a,c):=by
 cases n with
 | zero=>rfl | succ n=>simp only[u3b];rw[Al h]
theorem j4b {E:Type} {f:Cur->E×Cur} :∀ {n:Nat} {c:Cur} {a:Hu E},(u3b f n c a).2.2=false->(u3b f n c a).1.length=a.length+n
 | 0,c,a,_=>rfl | n+1,c,a,h=>by
  simp only[u3b] at h ⊢;split at h
  .rename_i q;rw[q] at h;cases h
  .rename_i q;rw[Ao q,j4b h];simp;omega
theorem u9z {s:Hs} {a:Nat} {n:Int} (h0:0<=n) (hn:n<=1000000000) (h:s0k s a (q63 n)):u20 s ((a:Int),false)=(n,((a+(q63 n).size:Nat):Int),false):=by
 unfold u20;rw[p0w h0 hn h,Ao (by simp)]
theorem s3n {s:Hs} {a:Nat} {x:Hs} (hx:x.size<=20000) (h:s0k s a (u0u x)):u29 s ((a:Int),false)=(x,((a+(u0u x).size:Nat):Int),false):=by
 unfold u29;rw[p93 hx h,Ao (by simp)]
theorem u34 (b:Bool):(j5m b).size=1:=u58 _
theorem p1z {s:Hs} {a:Nat} {b:Bool} (h:s0k s a (j5m b)):p48 s ((a:Int),false)=(b,((a+1:Nat):Int),false):=by
 have hle:=p4r h (by rw[u34];omega);rw[u34] at hle;obtain⟨r,hr⟩:=h;unfold j5m at hr;rw[r1r] at hr;have hb:u94 s a=if b then 1 else 0:=by
  unfold u94;have:s.data.toList.getD a 0=(s.data.toList.drop a).getD 0 0:=by
   rw[A5,A5,Dg,Df]
  rw[this,hr];cases b<;>rfl
 unfold p48;simp only[zTn,hb];rw[Ao]
 .cases b<;>simp
 .rintro(q | q | q)
  .cases q
  .omega
  .cases b<;>simp at q
theorem s7r {E:Type} {f:Cur->E×Cur} {g:E->Hs} {s:Hs} :∀ {l:Hu E} {a:Nat} {acc:Hu E},(∀x∈l,∀a:Nat,s0k s a (g x)->f ((a:Int),false)=(x,((a+(g x).size:Nat):Int),false))->
 s0k s a (q3v g l)->u3b f l.length ((a:Int),false) acc=(acc++l,((a+(q3v g l).size:Nat):Int),false)
 | [],a,acc,_,_=>by rw[o9d];simp[u3b,emp,ByteArray.size]
 | x::l,a,acc,hf,h=>by
  rw[r0k] at h ⊢;obtain⟨h1,h2⟩:=d6s.mp h;have e:=hf x (by simp) a h1;simp only[Bc,u3b];rw[Ao (by simp),e];rw[s7r (l:=l) (fun y hy=>hf y (by simp[hy])) h2,Af];simp[D9]
theorem j56 {s:Hs} {a:Nat} {r:s5b} (h1:r.1.size<=20000) (h2:r.2.size<=20000) (h:s0k s a (j40 r)):j0x s ((a:Int),false)=(r,((a+(j40 r).size:Nat):Int),false):=by
 obtain⟨k1,k2⟩:=d6s.mp h;unfold j0x;rw[s3n h1 k1];simp only;rw[s3n h2 k2];unfold j40;rw[Af,D9]
theorem o73 {s:Hs} {a:Nat} {w:WrT} (h1:w.1.size<=20000) (h2:w.2.1.size<=20000) (h:s0k s a (wrT w)):rWr s ((a:Int),false)=(w,((a+(wrT w).size:Nat):Int),false):=by
 obtain⟨k1,k2⟩:=d6s.mp h;obtain⟨k2,k3⟩:=d6s.mp k2;unfold rWr;rw[s3n h1 k1];simp only;rw[s3n h2 k2];simp only;rw[p1z k3];unfold wrT;rw[Af,Af,u34,D9,D9]
theorem j58 {s:Hs} {a:Nat} {v:u4n} (h1:v.1.size<=20000) (h2:v.2.1.size<=20000) (h3:0<=v.2.2.2/\v.2.2.2<=1000000000) (h:s0k s a (j4r v)):j0z s ((a:Int),false)=(v,((a+(j4r v).size:Nat):Int),false):=by
 have e:j4r v=wrT (v.1,v.2.1,v.2.2.1)++q63 v.2.2.2:=by unfold j4r wrT;simp only[t1x]
 rw[e] at h ⊢;obtain⟨k1,k2⟩:=d6s.mp h;unfold j0z;rw[o73 (w:=(v.1,v.2.1,v.2.2.1)) h1 h2 k1];simp only;rw[u9z h3.1 h3.2 k2,Af,D9]
theorem TxnR.small {t:u0e} (h:TxnR t):(∀r∈t.2.2.2.2.1,r.1.size<=3/\r.2.size<=3)/\(∀w∈t.2.2.2.2.2.1,w.1.size<=3/\w.2.1.size<=12)/\t.2.2.2.2.2.2.2.size<=3/\t.2.2.2.2.2.1.length<=8/\0<=t.2.2.2.1/\t.2.2.2.1<=9999:=by
 obtain⟨w1,w2,w3⟩:=d4a.mp h.ws;refine⟨fun r hr=> ?_,fun w hw=> ?_,?_,w3,?_⟩
 .have:=h.rs r hr;unfold u3a at this;rw[Ai,Ai] at this;exact⟨(u2y this.1).2,(u2y this.2.1).2⟩
 .have:=w1 w hw;unfold u4c at this;rw[Ai,Ai,Ar] at this;exact⟨(u2y this.1).2,this.2.1⟩
 .by_cases e:t.2.1=2
  .exact(u2y (h.name e)).2
  .rw[h.noname e];omega
 .by_cases e:t.2.1=3
  .have:=h.done e;have:=h.snap;omega
  .rw[h.nocs e];omega
theorem j57 {s:Hs} {a:Nat} {t:u0e} {m:Nat} (hm:8<=m) (ht:TxnR t) (h:s0k s a (t8g t)):o0f m s ((a:Int),false)=(t,((a+(t8g t).size:Nat):Int),false):=by
 obtain⟨z1,z2,z3,z4,z5⟩:=ht.small;have hi:=ht.id;have hst:=ht.st;have hsn:=ht.snap;have hrl:=ht.rlen;unfold t8g at h ⊢;obtain⟨k1,h⟩:=d6s.mp h;obtain⟨k2,h⟩:=d6s.mp h;obtain⟨k3,h⟩:=d6s.mp h;obtain⟨k4,h⟩:=d6s.mp h;obtain⟨k5,h⟩:=d6s.mp h;obtain⟨k6,h⟩:=d6s.mp h;obtain⟨k7,h⟩:=d6s.mp h;obtain⟨k8,h⟩:=d6s.mp h;obtain⟨k9,k10⟩:=d6s.mp h;unfold o0f;rw[u9z (by omega) (by omega) k1];simp only;rw[u9z (by omega) (by omega) k2];simp only;rw[u9z (by omega) (by omega) k3];simp only;rw[u9z (by omega) (by omega) k4];simp only;rw[u9z (by omega) (by omega) k5];simp only;rw[show min ((t.2.2.2.2.1.length:Int)).toNat m=t.2.2.2.2.1.length by omega,s7r (g:=j40) (fun r hr a hs=>j56 (by have:=(z1 r hr).1;omega) (by have:=(z1 r hr).2;omega) hs) k6];simp only;rw[u9z (by omega) (by omega) k7];simp only;rw[show min ((t.2.2.2.2.2.1.length:Int)).toNat m=t.2.2.2.2.2.1.length by omega,s7r (g:=wrT) (fun w hw a hs=>o73 (by have:=(z2 w hw).1;omega) (by have:=(z2 w hw).2;omega) hs) k8]
 simp only;rw[p1z k9];simp only;rw[u34] at k10;rw[s3n (by omega) k10];simp only[Cf,Af,u34];simp only[D9]
def u81 (m:Nat) (s:Hs) (c:Cur):u0e×Cur:=((o0f m s c).1,(o0f m s c).2.1,(o0f m s c).2.2 || !u92 (o0f m s c).1)
def t5p (m k:Nat) (s:Hs) (c:Cur):Hu u0e×Cur:=u3b (u81 m s) (min (u20 s c).1.toNat k) (u20 s c).2 []
structure Lim where
 t:Nat
 v:Nat
 p:Nat
 r:Nat
def r7y (m:Lim) (s:Hs) (c:Cur):u0m×Cur:=
 let a:=u20 s c
 let b:=u20 s a.2
 let n:=u20 s b.2
 let vs:=u3b (j0z s) (min n.1.toNat m.v) n.2 []
 let ps:=t5p m.t m.p s vs.2
 let rs:=t5p m.t m.r s ps.2
 ((vs.1,ps.1,rs.1,a.1,b.1),rs.2)
theorem d0j {m:Nat} {s:Hs} {c:Cur} (h:c.2=true):(u81 m s c).2.2=true:=by
 have:(o0f m s c).2.2=true:=by
  unfold o0f;have h1:=t4c (s:=s) h;have h2:=t4c (s:=s) h1;have h3:=t4c (s:=s) h2;have h4:=t4c (s:=s) h3;have h5:=t4c (s:=s) h4;simp only;rw[s06 h5];have h6:=t4c (s:=s) h5;simp only;rw[s06 h6];exact r7z (p4j h6)
 unfold u81;simp only[this,Dx]
theorem q7r {E:Type} {f:Cur->E×Cur} {n k:Nat} {c:Cur} (hk:k<=n):(u3b f n c []).2.2=true\/k<=(u3b f n c []).1.length:=by
 cases h:(u3b f n c []).2.2 with
 | true=>exact .inl rfl | false=>rw[j4b h];exact .inr (by simp;exact hk)
theorem o3z {m m' :Nat} (hm:9<=m) (hm' :9<=m') {s:Hs} {c:Cur} (h:(u81 m s c).2.2=false):u81 m' s c=u81 m s c:=by
 have hb:(o0f m s c).2.2=false/\u92 (o0f m s c).1=true:=by
  unfold u81 at h;simp only[Es,Bool.not_eq_false'] at h;exact h
 have hR:=p4u.mp hb.2;have hw:=(d4a.mp hR.ws).2.2
 suffices e:o0f m' s c=o0f m s c by unfold u81;rw[e]
 have b1:=hb.1;have hr:=hR.rlen;unfold o0f at b1 hr hw ⊢;simp only at b1 hr hw ⊢;generalize hn:u20 s (u20 s (u20 s (u20 s (u20 s c).2).2).2).2=n at b1 hr hw ⊢;have k1:n.1.toNat<=8\/(u3b (j0x s) (min n.1.toNat m) n.2 []).2.2=true:=by
  rcases B8 8 n.1.toNat with q | q
  .rcases q7r (f:=j0x s) (n:=min n.1.toNat m) (k:=9) (c:=n.2) (by omega) with z | z
   .exact .inr z
   .omega
  .exact .inl q
 have k1:n.1.toNat<=8:=k1.resolve_right fun k1=>by
  have h1:=t4c (s:=s) k1;rw[s06 h1] at b1;rw[r7z (p4j h1)] at b1;cases b1
 have e1:min n.1.toNat m=min n.1.toNat m' :=by omega
 rw[e1] at b1 hw ⊢;generalize hk:u20 s (u3b (j0x s) (min n.1.toNat m') n.2 []).2=k at b1 hw ⊢;have k2:k.1.toNat<=8\/(u3b (rWr s) (min k.1.toNat m) k.2 []).2.2=true:=by
  rcases B8 8 k.1.toNat with q | q
  .rcases q7r (f:=rWr s) (n:=min k.1.toNat m) (k:=9) (c:=k.2) (by omega) with z | z
   .exact .inr z
   .omega
  .exact .inl q
 have k2:k.1.toNat<=8:=k2.resolve_right fun k2=>by
  rw[r7z (p4j k2)] at b1;cases b1
 have e2:min k.1.toNat m=min k.1.toNat m' :=by omega
 rw[e2]
theorem o33 {E:Type} {f g:Cur->E×Cur} (hf:∀c,(f c).2.2=false->g c=f c) (hfb:∀c,c.2=true->(f c).2.2=true):∀ {n:Nat} {c:Cur} {a:Hu E},(u3b f n c a).2.2=false->u3b g n c a=u3b f n c a
 | 0,c,a,_=>rfl | n+1,c,a,h=>by
  simp only[u3b] at h ⊢;split at h
  .rename_i q;rw[q] at h;cases h
  .rename_i q;rw[Ao q,Ao q];have:(f c).2.2=false:=by
    cases z:(f c).2.2 with
    | false=>rfl | true=>rw[s06 z] at h;rw[z] at h;cases h
   rw[hf c this];exact o33 hf hfb h
def t99 (m:Lim) (s:Hs) (c:Cur):u0m×Cur:=((r7y m s c).1,(r7y m s c).2.1,(r7y m s c).2.2 || !t0z (r7y m s c).1)
def Lim.ok (m:Lim):Prop:=9<=m.t/\121<=m.v/\13<=m.p/\4<=m.r
theorem q6t {m k:Nat} {s:Hs} {c:Cur} (h:c.2=true):(t5p m k s c).2.2=true:=by
 unfold t5p;rw[s06 (t4c h)];exact t4c h
theorem j4c {m m' k k' N:Nat} (hm:9<=m) (hm' :9<=m') (hk:N<k) (hk' :N<k') {s:Hs} {c:Cur} (h:(t5p m k s c).2.2=false) (hl:(t5p m k s c).1.length<=N):t5p m' k' s c=t5p m k s c:=by
 unfold t5p at h hl ⊢;have q:(u20 s c).1.toNat<=N:=by
  rcases B8 N (u20 s c).1.toNat with q | q
  .rcases q7r (f:=u81 m s) (n:=min (u20 s c).1.toNat k) (k:=N+1) (c:=(u20 s c).2) (by omega) with z | z
   .rw[z] at h;cases h
   .omega
  .exact q
 have e:min (u20 s c).1.toNat k=min (u20 s c).1.toNat k' :=by omega
 rw[e] at h ⊢;exact o33 (fun c hc=>o3z hm hm' hc) (fun c hc=>d0j hc) h
theorem o7z {m m' :Lim} (hm:m.ok) (hm' :m'.ok) {s:Hs} {c:Cur} (h:(t99 m s c).2.2=false):t99 m' s c=t99 m s c:=by
 obtain⟨a1,a2,a3,a4⟩:=hm;obtain⟨b1,b2,b3,b4⟩:=hm';have hb:(r7y m s c).2.2=false/\t0z (r7y m s c).1=true:=by
  unfold t99 at h;simp only[Es,Bool.not_eq_false'] at h;exact h
 have hR:=o7n.mp hb.2;have v1:=(d1n.mp hR.vs).2.2;have v2:=hR.plen;have v3:=hR.rlen;have h0:=hb.1
 suffices e:r7y m' s c=r7y m s c by unfold t99;rw[e]
 unfold r7y at h0 v1 v2 v3 ⊢;simp only at h0 v1 v2 v3 ⊢;generalize hn:u20 s (u20 s (u20 s c).2).2=n at h0 v1 v2 v3 ⊢;have k1:n.1.toNat<=120:=by
  rcases B8 120 n.1.toNat with q | q
  .rcases q7r (f:=j0z s) (n:=min n.1.toNat m.v) (k:=121) (c:=n.2) (by omega) with z | z
   .exfalso;rw[q6t (q6t z)] at h0;cases h0
   .omega
  .exact q
 have e1:min n.1.toNat m.v=min n.1.toNat m'.v:=by omega
 rw[e1] at h0 v2 v3 ⊢;generalize hv:u3b (j0z s) (min n.1.toNat m'.v) n.2 [] =vs at h0 v2 v3 ⊢;have hp:(t5p m.t m.p s vs.2).2.2=false:=by
  cases z:(t5p m.t m.p s vs.2).2.2 with
  | false=>rfl | true=>rw[q6t z] at h0;cases h0
 rw[j4c (N:=12) a1 b1 (by omega) (by omega) hp v2];rw[j4c (N:=3) a1 b1 (by omega) (by omega) h0 v3]
theorem q6l {s:Hs} {a:Nat} {t:u0e} {m:Nat} (hm:8<=m) (ht:TxnR t) (h:s0k s a (t8g t)):u81 m s ((a:Int),false)=(t,((a+(t8g t).size:Nat):Int),false):=by
 unfold u81;rw[j57 hm ht h];simp only[p4u.mpr ht,Ap,Fp]
theorem p76 {s:Hs} {a:Nat} {l:Hu u0e} {m k:Nat} (hm:8<=m) (hk:l.length<=k) (hl:l.length<=1000000000) (ht:∀t∈l,TxnR t) (h:s0k s a (r72 l)):t5p m k s ((a:Int),false)=(l,((a+(r72 l).size:Nat):Int),false):=by
 unfold r72 at h ⊢;obtain⟨k1,k2⟩:=d6s.mp h;unfold t5p;rw[u9z (by omega) (by omega) k1];simp only;rw[show min ((l.length:Int)).toNat k=l.length by omega,s7r (g:=t8g) (fun t h a hs=>q6l hm (ht t h) hs) k2];rw[Af,Cf,D9]
theorem r1u {v:u4n} (h:q64 v=true):v.1.size<=3/\v.2.1.size<=12/\1<=v.2.2.2/\v.2.2.2<=9999:=by
 unfold q64 at h;simp only[Ai,Ar,p6g] at h;exact⟨(u2y h.1).2,h.2.1,h.2.2.2⟩
theorem j4a {s:Hs} {a:Nat} {b:u0m} {m:Lim} (hm:m.ok) (hb:BaseR b) (h:s0k s a (s7c b)):r7y m s ((a:Int),false)=(b,((a+(s7c b).size:Nat):Int),false):=by
 obtain⟨a1,a2,a3,a4⟩:=hm;obtain⟨v1,v2,v3⟩:=d1n.mp hb.vs;have hc:=hb.cs;have hx:=hb.next;have hp:=hb.plen;have hr:=hb.rlen;unfold s7c at h ⊢;obtain⟨k1,h⟩:=d6s.mp h;obtain⟨k2,h⟩:=d6s.mp h;obtain⟨k3,h⟩:=d6s.mp h;obtain⟨k4,h⟩:=d6s.mp h;obtain⟨k5,k6⟩:=d6s.mp h;unfold r7y;rw[u9z (by omega) (by omega) k1];simp only;rw[u9z (by omega) (by omega) k2];simp only;rw[u9z (by omega) (by omega) k3];simp only;rw[show min ((b.1.length:Int)).toNat m.v=b.1.length by omega,s7r (g:=j4r) (fun v hv a hs=>by
  have:=r1u (v1 v hv);exact j58 (by omega) (by omega) (by omega) hs) k4]
 simp only;rw[p76 (by omega) (by omega) (by omega) (fun t ht=>(hb.past t ht).1) k5];simp only;rw[p76 (by omega) (by omega) (by omega) (fun t ht=>(hb.ready t ht).1) k6];simp only[Cf,Af,D9]
theorem j4q {n:Nat} (h:n<16384):(s88 n).length<=2:=by
 by_cases q:n<128
 .rw[q62 q];simp
 .rw[p6n q,q62 (by omega)];simp
theorem u2b {n:Int} (h:n<16384):(q63 n).size<=2:=by rw[r1t];exact j4q (by omega)
theorem u09 {s:Hs} (h:s.size<16384):(u0u s).size<=s.size+2:=by
 unfold u0u;rw[Af,u58];have:=j4q h;omega
theorem s4e {E:Type} {f:E->Hs} {k:Nat} :∀ {l:Hu E},(∀x∈l,(f x).size<=k)->(q3v f l).size<=l.length*k
 | [],_=>by rw[o9d];simp[emp,ByteArray.size]
 | x::l,h=>by
  rw[r0k,Af,Bc,C7];have h1:=h x (by simp);have h2:=s4e (l:=l) (fun y hy=>h y (by simp[hy]));omega
theorem s47 {t:u0e} (h:TxnR t):(t8g t).size<=300:=by
 obtain⟨z1,z2,z3,z4,z5⟩:=h.small;have hi:=h.id;have hst:=h.st;have hsn:=h.snap;have hrl:=h.rlen;have r1:(q3v j40 t.2.2.2.2.1).size<=t.2.2.2.2.1.length*10:=s4e fun r hr=>by
  have:=z1 r hr;have q1:=u09 (s:=r.1) (by omega);have q2:=u09 (s:=r.2) (by omega);unfold j40;rw[Af];omega
 have r2:(q3v wrT t.2.2.2.2.2.1).size<=t.2.2.2.2.2.1.length*20:=s4e fun w hw=>by
  have:=z2 w hw;have q1:=u09 (s:=w.1) (by omega);have q2:=u09 (s:=w.2.1) (by omega);unfold wrT;rw[Af,Af,u34];omega
 have v1:=u2b (n:=t.1) (by omega);have v2:=u2b (n:=t.2.1) (by omega);have v3:=u2b (n:=t.2.2.1) (by omega);have v4:=u2b (n:=t.2.2.2.1) (by omega);have v5:=u2b (n:=(t.2.2.2.2.1.length:Int)) (by omega);have v6:=u2b (n:=(t.2.2.2.2.2.1.length:Int)) (by omega);have v7:=u09 (s:=t.2.2.2.2.2.2.2) (by omega);unfold t8g;simp only[Af,u34];omega
theorem s93 {l:Hu u0e} (hl:l.length<16384) (h:∀t∈l,TxnR t):(r72 l).size<=2+l.length*300:=by
 unfold r72;rw[Af];have v1:=u2b (n:=(l.length:Int)) (by omega);have v2:=s4e (f:=t8g) (k:=300) (l:=l) (fun t ht=>s47 (h t ht));omega
theorem p4z {v:u4n} (h:q64 v=true):(j4r v).size<=22:=by
 have:=r1u h;have q1:=u09 (s:=v.1) (by omega);have q2:=u09 (s:=v.2.1) (by omega);have q3:=u2b (n:=v.2.2.2) (by omega);unfold j4r;simp only[Af,u34];omega
theorem p5n {b:u0m} (hb:BaseR b):(s7c b).size<=10+b.1.length*22+b.2.1.length*300+b.2.2.1.length*300:=by
 obtain⟨v1,v2,v3⟩:=d1n.mp hb.vs;have hc:=hb.cs;have hx:=hb.next;have hp:=hb.plen;have hr:=hb.rlen;have q1:=u2b (n:=b.2.2.2.1) (by omega);have q2:=u2b (n:=b.2.2.2.2) (by omega);have q3:=u2b (n:=(b.1.length:Int)) (by omega);have q4:=s4e (f:=j4r) (k:=22) (l:=b.1) (fun v hv=>p4z (v1 v hv));have q5:=s93 (l:=b.2.1) (by omega) (fun t ht=>(hb.past t ht).1);have q6:=s93 (l:=b.2.2.1) (by omega) (fun t ht=>(hb.ready t ht).1);unfold s7c;simp only[Af];omega
def d50 (a b:Int):Int:=u32.wrap ((BitVec.ofInt u32.bits a^^^BitVec.ofInt u32.bits b).toNat:Int)
def d0z (x:Int):Int:=bif decide (Int.tmod x 2=1) then d50 (u32.wrap (Int.tdiv x 2)) 3558460437 else u32.wrap (Int.tdiv x 2)
def o4i:Nat->Int->Int
 | 0,x=>x | n+1,x=>o4i n (d0z x)
def o4j (x:Int) (b:UInt8):Int:=o4i 8 (d50 x (u32.wrap (b.toNat:Int)))
def d5v (t:Hs):Int:=t.data.toList.foldl o4j 4294967295
def d5s (x:Int) (k:Nat):Int:=u8.wrap (Int.fdiv x (2^k))
def d9s (x:Int):Hs:=y7s [d5s x 24,d5s x 16,d5s x 8,u8.wrap x]
def p13 (t:Hs):Hs:=t++d9s (d5v t)
def o4c (t:Hs):Hs×Bool:=if t.size<=20000 then(p13 t,true) else(emp,false)
def t95 (t:Hs):Ht Hs:=if 4<=t.size/\t.size - 4<=20000/\p13 (t.extract 0 (t.size - 4))=t then some (t.extract 0 (t.size - 4)) else none
theorem j98 (x:Int):(d9s x).size=4:=u58 _
theorem o8c (t:Hs):(p13 t).size=t.size+4:=by unfold p13;rw[Af,j98]
theorem p4v {t:Hs} (h:t.size<=20000):t95 (p13 t)=some t:=by
 have hs:=o8c t;have e:(p13 t).extract 0 ((p13 t).size - 4)=t:=by
  rw[hs,Nat.add_sub_cancel];exact ByteArray.extract_append_eq_left rfl
 unfold t95;rw[e,Al ⟨by omega,by omega,rfl⟩]
abbrev r2l:=Int×u0e×Hs×Bool×u0m
def u6a:u0e:=(0,0,0,0, [], [],false,emp)
def u70:u0m:=([], [], [],0,0)
def noT (t:u0e):Bool:=decide (t.1=0)&&(decide (t.2.1=0)&&(decide (t.2.2.1=0)&&(decide (t.2.2.2.1=0)&&(decide (t.2.2.2.2.1.length=0)&&(decide (t.2.2.2.2.2.1.length=0)&&(!t.2.2.2.2.2.2.1&&decide (t.2.2.2.2.2.2.2.size=0)))))))
def noB (b:u0m):Bool:=decide (b.1.length=0)&&(decide (b.2.1.length=0)&&(decide (b.2.2.1.length=0)&&(decide (b.2.2.2.1=0)&&decide (b.2.2.2.2=0))))
def u86 (r:r2l):Bool:=
 if r.1=1 then u92 r.2.1&&(decide (r.2.1.2.1=3)&&(decide (r.2.2.1.size=0)&&(!r.2.2.2.1&&noB r.2.2.2.2)))
 else if r.1=2 then u92 r.2.1&&(decide (r.2.1.2.1=2)&&(decide (r.2.2.1.size=0)&&(!r.2.2.2.1&&noB r.2.2.2.2)))
 else if r.1=3 then noT r.2.1&&(t02 r.2.2.1&&noB r.2.2.2.2)
 else if r.1=4 then noT r.2.1&&(decide (r.2.2.1.size=0)&&(!r.2.2.2.1&&t0z r.2.2.2.2))
 else false
def p10 (r:r2l):Hs:=y7s [u8.wrap r.1] ++(if r.1=3 then u0u r.2.2.1++j5m r.2.2.2.1 else if r.1=4 then s7c r.2.2.2.2 else t8g r.2.1)
def u0v (r:r2l):Hs×Bool:=if u86 r=true then o4c (p10 r) else(emp,false)
theorem d26 {s:Hs} (h:s.size=0):s=emp:=j6v (by
 rw[p1d] at h;rw[Dk.mp h];rfl)
theorem d0i {t:u0e} :noT t=true↔t=u6a:=by
 unfold noT u6a;simp only[Ai,Ar,Bj];constructor
 .rintro⟨h1,h2,h3,h4,h5,h6,h7,h8⟩
  obtain⟨t1,t2,t3,t4,t5,t6,t7,t8⟩:=t;simp only at h1 h2 h3 h4 h5 h6 h7 h8;rw[h1,h2,h3,h4,Dk.mp h5,Dk.mp h6,h7,d26 h8]
 .rintro rfl
  exact⟨rfl,rfl,rfl,rfl,rfl,rfl,rfl,rfl⟩
theorem j55 {b:u0m} :noB b=true↔b=u70:=by
 unfold noB u70;simp only[Ai,Ar];constructor
 .rintro⟨h1,h2,h3,h4,h5⟩
  obtain⟨t1,t2,t3,t4,t5⟩:=b;simp only at h1 h2 h3 h4 h5;rw[h4,h5,Dk.mp h1,Dk.mp h2,Dk.mp h3]
 .rintro rfl
  exact⟨rfl,rfl,rfl,rfl,rfl⟩
inductive RecR:r2l->Prop where
 | thr (t:u0e) (h:TxnR t) (hs:t.2.1=3):RecR (1,t,emp,false,u70) | rdy (t:u0e) (h:TxnR t) (hs:t.2.1=2):RecR (2,t,emp,false,u70) | fin (n:Hs) (y:Bool) (h:t02 n=true):RecR (3,u6a,n,y,u70) | bas (b:u0m) (h:BaseR b):RecR (4,u6a,emp,false,b)
theorem d37 {r:r2l} :u86 r=true↔RecR r:=by
 obtain⟨k,t,n,y,b⟩:=r;unfold u86;simp only;constructor
 .intro h;split at h
  .rename_i e;simp only[Ai,Ar,Bj,p4u,j55] at h;obtain⟨h1,h2,h3,h4,h5⟩:=h;rw[e,d26 h3,h4,h5];exact .thr t h1 h2
  .split at h
   .rename_i _ e;simp only[Ai,Ar,Bj,p4u,j55] at h;obtain⟨h1,h2,h3,h4,h5⟩:=h;rw[e,d26 h3,h4,h5];exact .rdy t h1 h2
   .split at h
    .rename_i _ _ e;simp only[Ai,d0i,j55] at h;obtain⟨h1,h2,h3⟩:=h;rw[e,h1,h3];exact .fin n y h2
    .split at h
     .rename_i _ _ _ e;simp only[Ai,Ar,Bj,d0i,o7n] at h;obtain⟨h1,h2,h3,h4⟩:=h;rw[e,h1,d26 h2,h3];exact .bas b h4
     .cases h
 .intro h;cases h with
  | thr t h hs=>simp[p4u.mpr h,hs,j55.mpr rfl,emp,ByteArray.size] | rdy t h hs=>simp[p4u.mpr h,hs,j55.mpr rfl,emp,ByteArray.size] | fin n y h=>simp[h,j55.mpr rfl,d0i.mpr rfl] | bas b h=>simp[o7n.mpr h,d0i.mpr rfl,emp,ByteArray.size]
theorem s91 {r:r2l} (h:RecR r):2<=(p10 r).size/\(p10 r).size<=10000:=by
 have h1:∀n:Int,(y7s [n]).size=1:=fun n=>u58 _
 cases h with
 | thr t h hs=>
  have:=s47 h;have q:1<=(t8g t).size:=by
   unfold t8g;rw[Af,r1t];have:=p4x t.1.toNat;omega
  show 2<=(y7s _++t8g t).size/\(y7s _++t8g t).size<=10000;rw[Af,h1];omega
 | rdy t h hs=>
  have:=s47 h;have q:1<=(t8g t).size:=by
   unfold t8g;rw[Af,r1t];have:=p4x t.1.toNat;omega
  show 2<=(y7s _++t8g t).size/\(y7s _++t8g t).size<=10000;rw[Af,h1];omega
 | fin n y h=>
  have:=u2y h;have q:=u09 (s:=n) (by omega);show 2<=(y7s _++(u0u n++j5m y)).size/\(y7s _++(u0u n++j5m y)).size<=10000;have:=(s7u n).1;rw[Af,Af,h1,u34];omega
 | bas b h=>
  have:=p5n h;have a1:=(d1n.mp h.vs).2.2;have a2:=h.plen;have a3:=h.rlen;have q:1<=(s7c b).size:=by
   unfold s7c;rw[Af,r1t];have:=p4x b.2.2.2.1.toNat;omega
  show 2<=(y7s _++s7c b).size/\(y7s _++s7c b).size<=10000;rw[Af,h1];omega
theorem s7s {r:r2l} (h:RecR r):u0v r=(p13 (p10 r),true):=by
 unfold u0v o4c;rw[Al (d37.mpr h),Al (by have:=(s91 h).2;omega)]
def c1r:Lim:=⟨9,121,13,4⟩
theorem j53:c1r.ok:=⟨by decide,by decide,by decide,by decide⟩
def t7a (s:Hs):r2l×Bool:=
 if u94 s 0=3 then((3,u6a,(u29 s (1,false)).1,(p48 s (u29 s (1,false)).2).1,u70),(p48 s (u29 s (1,false)).2).2.2)
 else if u94 s 0=4 then((4,u6a,emp,false,(t99 c1r s (1,false)).1),(t99 c1r s (1,false)).2.2)
 else(((u94 s 0:Int),(u81 9 s (1,false)).1,emp,false,u70),(u81 9 s (1,false)).2.2)
def u7g (t:Hs):Ht r2l:=
 match t95 t with
 | none=>none | some s=>if s.size=0 then none else if(t7a s).2=true\/u0v (t7a s).1≠(t,true) then none else some (t7a s).1
theorem o9c {k:Nat} (h:k<256) (s:Hs):u94 (y7s [u8.wrap (k:Int)] ++s) 0=k:=by
 unfold u94;rw[o1a,r1r];have:u8.wrap (k:Int)=(k:Int):=d1c h;rw[this];show(UInt8.ofNat ((k:Int)).toNat).toNat=k;rw[zTn];simp;omega
theorem s51 {r:r2l} (h:RecR r):t7a (p10 r)=(r,false):=by
 have st:∀(x:Int) (s:Hs),s0k (y7s [x] ++s) 1 s:=fun x s=>by
  have:=j8q (a:=y7s [x]) (s:=s) (b:=emp);rw[j5l,u58] at this;exact this
 cases h with
 | thr t h hs=>
  have e:p10 (1,t,emp,false,u70)=y7s [u8.wrap ((1:Nat):Int)] ++t8g t:=rfl;rw[e];unfold t7a;rw[o9c (by omega),Ao (by omega),Ao (by omega)];have q:=q6l (m:=9) (by omega) h (st (u8.wrap ((1:Nat):Int)) (t8g t));have q:u81 9 (y7s [u8.wrap ((1:Nat):Int)] ++t8g t) (1,false)=_:=q;rw[q];rfl
 | rdy t h hs=>
  have e:p10 (2,t,emp,false,u70)=y7s [u8.wrap ((2:Nat):Int)] ++t8g t:=rfl;rw[e];unfold t7a;rw[o9c (by omega),Ao (by omega),Ao (by omega)];have q:=q6l (m:=9) (by omega) h (st (u8.wrap ((2:Nat):Int)) (t8g t));have q:u81 9 (y7s [u8.wrap ((2:Nat):Int)] ++t8g t) (1,false)=_:=q;rw[q];rfl
 | fin n y h=>
  have e:p10 (3,u6a,n,y,u70)=y7s [u8.wrap ((3:Nat):Int)] ++(u0u n++j5m y):=rfl;rw[e];unfold t7a;rw[o9c (by omega),Al rfl];obtain⟨k1,k2⟩:=d6s.mp (st (u8.wrap ((3:Nat):Int)) (u0u n++j5m y));have q1:=s3n (by have:=u2y h;omega) k1;have q1:u29 (y7s [u8.wrap ((3:Nat):Int)] ++(u0u n++j5m y)) (1,false)=_:=q1;rw[q1];simp only;rw[p1z k2]
 | bas b h=>
  have e:p10 (4,u6a,emp,false,b)=y7s [u8.wrap ((4:Nat):Int)] ++s7c b:=rfl;rw[e];unfold t7a;rw[o9c (by omega),Ao (by omega),Al rfl];have q:=j4a j53 h (st (u8.wrap ((4:Nat):Int)) (s7c b));have q:r7y c1r (y7s [u8.wrap ((4:Nat):Int)] ++s7c b) (1,false)=_:=q;unfold t99;rw[q];simp only[o7n.mpr h,Ap,Fp]
theorem j4e {r:r2l} (h:RecR r):u7g (p13 (p10 r))=some r:=by
 have hs:=s91 h;unfold u7g;rw[p4v (by omega)];simp only;rw[Ao (by omega),s51 h];simp only;rw[s7s h,Ao (by simp)]
theorem p4m {t:Hs} {r:r2l} (h:u7g t=some r):RecR r/\t=p13 (p10 r):=by
 unfold u7g at h;split at h
 .cases h
 .rename_i s hs;split at h
  .cases h
  .split at h
   .cases h
   .rename_i hc;simp only[Hr,ne_eq,Decidable.not_not] at hc;have e:=Ds h;rw[e] at hc;have hr:u86 r=true:=by
     cases q:u86 r with
     | true=>rfl | false=>
      have:=hc.2;unfold u0v at this;rw[Ao (by simp[q])] at this;simp at this
    have hR:=d37.mp hr;refine⟨hR,?_⟩;have:=hc.2;rw[s7s hR] at this;exact(Dv this).1.symm
def t5i (b:u0m) (r:r2l):Ht u0m:=
 if r.1=1 then(if r.2.1.2.2.2.1=b.2.2.2.1+1 then some (u2p b r.2.1) else none)
 else if r.1=2 then(if b.2.2.1.length<3/\u0l b r.2.1.2.2.2.2.2.2.2<0 then some (u54 b r.2.1 r.2.1.2.2.2.2.2.2.2) else none)
 else if r.1=3 then(if u0l b r.2.2.1<0 then none else if r.2.2.2.1=true then some (u2p b (rdL u01 b.2.2.1 (u0l b r.2.2.1).toNat)) else some (s76 b r.2.2.1))
 else some r.2.2.2.2
def r7w (b:u0m) (r:r2l):Ht u0m:=
 if t0z b=true/\u86 r=true then(match t5i b r with
  | none=>none | some x=>if t0z (t8f x [])=true then some (t8f x []) else none)
 else none
def d32:u0m:=([], [], [],0,1)
def q6m:u0m->Hu Hs->Ht u0m
 | b, [] =>some b | b,t::l=>match u7g t with
  | none=>none | some r=>match r7w b r with
   | none=>none | some x=>q6m x l
def r5c (l:Hu Hs):Ht u0m:=q6m d32 l
theorem o4f {s:Hu Hs} {p:Int×Hs} {k i:Nat} {b:UInt8} (hk:k<s.length) (hp0:0<=p.1) (h1:s8y (rdL Ty.str s k) i=b) (h2:p.1=(k:Int)->s8y p.2 i=b):s8y (rdL Ty.str (s7t s p) k) i=b:=by
 have:=j4k (s:=s) (p:=p) (j:=(k:Int)) hp0 (by omega) (by simpa using hk);rw[zTn] at this;rw[this];split
 .rename_i e;exact h2 e
 .exact h1
theorem j8c {x:u0j} (hk:u1u x=true) (keep:Hu Int) (tear:Int) {k i:Nat} (hkl:k<x.1.length) (hi:i<64) {b:UInt8} (h1:s8y (rdL Ty.str x.1 k) i=b) (h2:∀p∈x.2,p.1=(k:Int)->s8y p.2 i=b):
 s8y (rdL Ty.str (t2i x keep tear).1 k) i=b:=by
 obtain⟨k1,k2,k3,k4⟩:=o7r.mp hk;have ht:=(p4s tear).1;have e:(t2i x keep tear).1=s4f x keep (u0r keep x.2.length) (t8e tear) x.2.length:=by unfold t2i;rw[Al hk];rfl
 rw[e];have key:∀n,n<=x.2.length->s8y (rdL Ty.str (s4f x keep (u0r keep x.2.length) (t8e tear) n) k) i=b:=by
  intro n
  induction n with
  | zero=>intro _;exact h1 | succ n ih=>
   intro hn;have ih:=ih (by omega);obtain⟨i1,i2⟩:=r6v hk keep ht (last:=u0r keep x.2.length) n (by omega);have hp:=k4 x.2[n] (Ag (by omega));have hpb:=h2 x.2[n] (Ag (by omega));rw[r0l];generalize hS:s4f x keep (u0r keep x.2.length) (t8e tear) n=S at*;unfold t2j;rw[y9a (t:=o7j) (show n<x.2.length by omega)];split
   .split
    .refine o4f (by omega) hp.1.1 ih (fun z=> ?_);have z:(x.2[n]).1=(k:Int):=z;have hold:rdL Ty.str S (x.2[n]).1.toNat=rdL Ty.str S k:=by rw[z,zTn]
     have h64:(rdL Ty.str S k).size=64:=by
      have e:rdL Ty.str S k=S[k]'(by omega):=y9a (t:=Ty.str) (by omega);rw[e];exact i2 _ (Ag _)
     simp only[hold];rw[u8j,u3w,u3w,Bd,hp.2,h64];split
     .rw[Co];exact hpb z
     .rw[Al (by omega)];rw[show t8e tear+(i - (min (t8e tear) 64 - 0))=i by omega];exact ih
    .exact o4f (by omega) hp.1.1 ih hpb
   .exact ih
 exact key _ (Au _)
theorem j4s:∀ {f:Nat} {d x:u0j} {k at_:Nat} {t:Hs},p98 f d k at_ t=some x->at_<64-> ∀p∈x.2,p∈d.2\/ ∃j:Nat,p.1=(j:Int)/\k<=j/\j*64<k*64+at_+t.size/\ ∀i,i<64->j*64+i<k*64+at_->s8y p.2 i=s8y (u0k d (j:Int)).1 i
 | 0,d,x,k,at_,t,h,_,p,hp=>by cases h;exact .inl hp
 | f+1,d,x,k,at_,t,h,hat,p,hp=>by
  rw[p98] at h;split at h
  .cases h;exact .inl hp
  .rename_i hz;split at h
   .rename_i hrd;cases hw:u6y d (k:Int) ((u0k d (k:Int)).1.extract 0 at_++t.extract 0 (min t.size (64 - at_))++(u0k d (k:Int)).1.extract (at_+min t.size (64 - at_)) 64) with
    | none=>rw[hw] at h;cases h | some y=>
     rw[hw] at h;simp only[zOb] at h;rcases j4s h (by omega) p hp with q | ⟨j,h1,h2,h3,h4⟩
     .rw[(t8j hw).2] at q;simp only[Ay,Ax] at q;rcases q with q | q
      .exact .inl q
      .refine .inr ⟨k,by rw[q],Au _,by omega,fun i hi hlt=> ?_⟩;rw[q];simp only;rw[u8j,u8j,u3w];simp only[Af,Bd,hrd.2];rw[Al (by omega),Al (by omega),Al (by omega),Co]
     .refine .inr ⟨j,h1,by omega,?_,fun i hi hlt=>by omega⟩;rw[Bd] at h3;omega
   .cases h
def p5k (d e:u0j):Prop:=u2s e=true/\u0n e=u0n d/\u0c e 0=u0c d 0/\u0c e 1=u0c d 1
theorem t01 {a:Int} (ha:a=0\/a=1):u0d a=1+a*48/\(s8x a:Int)=2+a*48:=by
 have hfa:u0d a=1+a*48:=by unfold u0d;rw[Al (d2b.mpr ha)]
 refine⟨hfa,?_⟩;unfold s8x;rcases ha with rfl | rfl<;>omega
theorem p4g {e:u0j} (h1:u1u e=true) (h2:e.1.length=97) (h3:e.2= []) (h4:(u0c e 0).2.2=true) (h5:(u0c e 1).2.2=true):u2s e=true:=by
 unfold u2s;rw[h1,h4,h5];simp[h2,h3]
theorem r40 {d e:u0j} (h:u0k e 0=u0k d 0):u0n e=u0n d:=by
 unfold u0n u43;rw[h]
theorem d0d {d e:u0j} (hl:u2s d=true) {a:Int} (ha:a=0\/a=1) (h1:u1u e=true) (h2:e.1.length=97) (h3:e.2= [])
 (h4:∀k:Nat,k<97-> ¬(s8x a<=k/\k<s8x a+47)->u0k e (k:Int)=u0k d (k:Int))
 (h5:∀j:Nat,(j:Int)<(u0c d a).2.1->j<3008->s8y (r89 e a) j=s8y (r89 d a) j):p5k d e:=by
 obtain⟨d1,d2,d3,d4,d5⟩:=u53 hl;have fd:=r0o d1 d2;have fe:=r0o h1 h2;obtain⟨f1,f2⟩:=t01 ha;have hact:u0n e=u0n d:=r40 (h4 0 (by omega) (by omega));have hcnt:u0z e a=u0z d a:=by
  unfold u0z u43;have hk:u0d a=(((u0d a).toNat:Nat):Int):=by rcases ha with rfl | rfl<;>omega
  have:=h4 (u0d a).toNat (by rcases ha with rfl | rfl<;>omega) (by rcases ha with rfl | rfl<;>omega);rw[←hk] at this;rw[this]
 have hra:u0c e a=u0c d a:=by
  have hda:=t4d fd ha;have hok:(u0c d a).2.2=true:=by rcases ha with rfl | rfl<;>assumption
  rw[t4d fe ha,hcnt];obtain⟨l,E,r⟩:∃l E,u0c d a=(l,E,true):=⟨_,_,by rw[←hok]⟩;rw[r] at h5 ⊢;rw[r] at hda;have hsz:(r89 e a).size=(r89 d a).size:=by rw[(u79 fe ha).2.1,(u79 fd ha).2.1]
  have hat:=o08 (r89 d a) (u0z d a).toNat 0 [] (by simp);rw[←hda] at hat;refine q5x hsz hda.symm (fun q hq=>h5 q hq ?_);have:=(u79 fd ha).2.1;simp only at hat;omega
 have hro:u0c e (1 - a)=u0c d (1 - a):=by
  refine t5x (fun q hq=> ?_);have ho:=(t01 (a:=1 - a) (by omega)).1;obtain⟨j,hj⟩:∃j:Nat,u0d (1 - a)+(q:Int)=(j:Int):=⟨(u0d (1 - a)+(q:Int)).toNat,by rcases ha with rfl | rfl<;>omega⟩;rw[hj];exact h4 j (by rcases ha with rfl | rfl<;>omega) (by rcases ha with rfl | rfl<;>omega)
 have both:u0c e 0=u0c d 0/\u0c e 1=u0c d 1:=by
  rcases ha with rfl | rfl
  .exact⟨hra,by simpa using hro⟩
  .exact⟨by simpa using hro,hra⟩
 exact⟨p4g h1 h2 h3 (by rw[both.1];exact d4) (by rw[both.2];exact d5),hact,both.1,both.2⟩
theorem o0c {d x:u0j} {a:Int} {t:Hs} (h:t1k d a t=some x):∃E:Nat,(u0c d a).2.1=(E:Int)/\E+(u0u t).size<=3008/\p98 ((u0u t).size+1) d (s8x a+E / 64) (E % 64) (u0u t)=some x/\t.size≠0/\t.size<=3008/\u0z d a<255:=by
 have hat:=r9y d a;unfold t1k at h;split at h
 .cases h
 .rename_i hc;simp only[Hr] at hc;unfold u7i at h;split at h
  .exact⟨(u0c d a).2.1.toNat,by omega,by omega,h,hc.2.1,by omega,by omega⟩
  .cases h
theorem r9z {d:u0j} (h:d.2= []) {k:Nat} (hk:k<d.1.length):u0k d (k:Int)=(rdL Ty.str d.1 k,true):=by
 unfold u0k;rw[Al (by omega),h,zTn];rfl
theorem j5n {d x:u0j} {a:Int} {t:Hs} (hl:u2s d=true) (ha:a=0\/a=1) (h:t1k d a t=some x) (keep:Hu Int) (tear:Int):p5k d (t2i x keep tear):=by
 obtain⟨d1,d2,d3,d4,d5⟩:=u53 hl;obtain⟨_,x1,x2,_⟩:=s4d h;obtain⟨E,e1,e2,e3,_⟩:=o0c h;obtain⟨c1,c2,c3⟩:=o9f x1 keep tear;have hxl:x.1.length=97:=by rw[x2];exact d2
 have hcl:(t2i x keep tear).1.length=97:=by rw[c3];exact hxl
 obtain⟨f1,f2⟩:=t01 ha;have fd:=r0o d1 d2;have fe:=r0o c1 hcl;have puts:=fun p hp=>(j4s e3 (Ev _ (by omega)) p hp).resolve_left (by rw[d3];intro z;cases z)
 have byte:∀k i:Nat,k<97->i<64->(k*64+i<s8x a*64+E\/ ¬(s8x a<=k/\k<s8x a+47))->s8y (u0k (t2i x keep tear) (k:Int)).1 i=s8y (u0k d (k:Int)).1 i:=fun k i hk hi hc=>by
  rw[r9z c2 (by omega),r9z d3 (by omega)];simp only;refine j8c x1 keep tear (by omega) hi (by rw[x2]) (fun p hp hpk=> ?_);obtain⟨j,j1,j2,j3,j4⟩:=puts p hp;have hjk:j=k:=by omega
  subst hjk;rcases hc with hc | hc
  .rw[j4 i hi (by omega),r9z d3 (by omega)]
  .exfalso;exact hc ⟨by omega,by omega⟩
 refine d0d hl ha c1 hcl c2 (fun k hk hn=> ?_) (fun j hj hj2=> ?_)
 .have q1:=fe k hk;have q2:=fd k hk;apply Prod.ext
  .exact p4a (by rw[q1.2,q2.2]) (fun i hi=>byte k i hk (by omega) (.inr hn))
  .rw[q1.1,q2.1]
 .rw[(u79 fe ha).2.2 j hj2,(u79 fd ha).2.2 j hj2];have hj' :j<E:=by omega
  refine byte _ _ ?_ (Ev _ (by omega)) (.inl (by omega));rcases ha with rfl | rfl<;>omega
theorem o3h {d x:u0j} {a:Int} {t:Hs} (hl:u2s d=true) (ha:a=0\/a=1) (h:t1k d a t=some x):
 p5k d (flush x)/\ ∀E:Nat,(u0c d a).2.1=(E:Int)-> ∀q,q<(u0u t).size->s8y (r89 (flush x) a) (E+q)=s8y (u0u t) q:=by
 obtain⟨d1,d2,d3,d4,d5⟩:=u53 hl;obtain⟨_,x1,x2,_⟩:=s4d h;obtain⟨E,e1,e2,e3,_⟩:=o0c h;obtain⟨c1,c2,c3⟩:=s2m x1;have hxl:x.1.length=97:=by rw[x2];exact d2
 have hcl:(flush x).1.length=97:=by rw[c3];exact hxl
 obtain⟨f1,f2⟩:=t01 ha;have fd:=r0o d1 d2;have fe:=r0o c1 hcl;have hb97:s8x a+47<=97:=by rcases ha with rfl | rfl<;>omega
 have hbytes:=fun j i (hi:i<64) (hj:j<97)=>o8l e3 (by omega) (Ev _ (by omega)) j i hi (by omega)
 refine⟨d0d hl ha c1 hcl c2 (fun k hk hn=> ?_) (fun j hj hj2=> ?_),fun E' hE' q hq=> ?_⟩
 .rw[t7z x1];exact q7v e3 (Ev _ (by omega)) k (fun z=>hn ⟨by omega,by omega⟩)
 .rw[(u79 fe ha).2.2 j hj2,(u79 fd ha).2.2 j hj2,t7z x1,hbytes _ _ (Ev _ (by omega)) (by omega),Ao (by omega)]
 .have hEE:E' =E:=by omega
  subst hEE;rw[(u79 fe ha).2.2 (E' +q) (by omega),t7z x1,hbytes _ _ (Ev _ (by omega)) (by omega),Al (by omega)];congr 1;omega
theorem p5o (t:Hs):p8m t=((s8y t 0).toNat:Int):=rfl
theorem o1g (n:Int) (r:Hs) (h0:0<=n) (h1:n<256):p8m (t97 n++r)=n:=by
 rw[p5o,u8j,Al (by rw[u2z];omega)];unfold t97 s8y;rw[r1r];have w:u8.wrap n=n:=by rw[j6g];omega
 rw[w];simp only[u8s,C8,Eh,List.getD_cons_zero];rw[Gg];omega
theorem d0p {d y:u0j} {a:Int} {t:Hs} (hl:u2s d=true) (ha:a=0\/a=1) (h:p4i d a t=some y):
 u2s y=true/\u0n y=u0n d/\u0c y (1 - a)=u0c d (1 - a)/\u0z y a=u0z d a+1/\u0c y a=((u0c d a).1++ [t],(u0c d a).2.1+((u0u t).size:Int),true):=by
 obtain⟨d1,d2,d3,d4,d5⟩:=u53 hl;obtain⟨x,hx,x1,y1,y2,y3,hy⟩:=j7h d2 h;obtain⟨s1,s2⟩:=o3h hl ha hx;obtain⟨E,e1,e2,e3,e4,e5,e6⟩:=o0c hx;obtain⟨c1,c2,c3⟩:=s2m x1;have hxl:(flush x).1.length=97:=(u53 s1.1).2.1;obtain⟨f1,f2⟩:=t01 ha;have hcl:=r6u d a;have hc1:s3k d a=u0z d a+1:=by unfold s3k;exact y5f (by omega) (by omega)
 have hob:=p1v (s:=u0d a) c1 c2 (by omega) (by rw[hxl];rcases ha with rfl | rfl<;>omega) (u2z (s3k d a));have hcz:r27 (flush x) a (s3k d a)=some ((flush x).1, [(u0d a,t97 (s3k d a)++(rdL Ty.str (flush x).1 (u0d a).toNat).extract 1 64)]):=hob;have hz1:=(t09 hob).2.1;rw[hcz] at hy;simp only[orD] at hy;have hrd:∀j:Int,u0k y j=if j=u0d a then(t97 (s3k d a)++(rdL Ty.str (flush x).1 (u0d a).toNat).extract 1 64,true) else u0k (flush x) j:=fun j=>by
  rw[hy,t7z hz1];by_cases e:j=u0d a
  .rw[Al e,e];unfold u0k;rw[Al (by show _/\_<((flush x).1.length:Int);rw[hxl];rcases ha with rfl | rfl<;>omega)];simp[t56]
  .rw[Ao e];have hne: ¬u0d a=j:=fun z=>e z.symm
   unfold u0k;simp only[t56,Bs,List.foldl_nil,hne,Bk,c2]
 have fy:=r0o y1 y3;have fx:=r0o c1 hxl;have fd:=r0o d1 d2;have hcnt:u0z y a=u0z d a+1:=by
  unfold u0z at hc1 ⊢;rw[d2b.mpr ha,Al rfl] at*;unfold u43 at*;rw[hrd,Al rfl];simp only;have:u0z d a=p8m (u0k d (u0d a)).1:=by unfold u0z u43;rw[d2b.mpr ha,Al rfl]
  rw[hc1];exact o1g _ _ (by omega) (by omega)
 have hareaT:∀j,j<3008->s8y (r89 y a) j=s8y (r89 (flush x) a) j:=fun j hj=>by
  rw[(u79 fy ha).2.2 j hj,(u79 fx ha).2.2 j hj,hrd,Ao (by rcases ha with rfl | rfl<;>omega)]
 have hother:u0c y (1 - a)=u0c (flush x) (1 - a):=by
  refine t5x (fun q hq=> ?_);have ho:=(t01 (a:=1 - a) (by omega)).1;rw[hrd,Ao (by rcases ha with rfl | rfl<;>omega)]
 have hother2:u0c (flush x) (1 - a)=u0c d (1 - a):=by
  rcases ha with rfl | rfl
  .exact s1.2.2.2
  .exact s1.2.2.1
 have hact:u0n y=u0n d:=by
  rw[←s1.2.1];exact r40 (by rw[hrd,Ao (by rcases ha with rfl | rfl<;>omega)])
 have hok:(u0c d a).2.2=true:=by rcases ha with rfl | rfl<;>assumption
 have hda:u89 (r89 d a) (u0z d a).toNat 0 [] =((u0c d a).1,(E:Int),true):=by
  rw[←t4d fd ha,←e1,←hok]
 have hfx:u89 (r89 (flush x) a) (u0z (flush x) a).toNat 0 [] =((u0c d a).1,(E:Int),true):=by
  have:u0c (flush x) a=u0c d a:=by
   rcases ha with rfl | rfl
   .exact s1.2.2.1
   .exact s1.2.2.2
  rw[←t4d fx ha,this,←e1,←hok]
 have hcx:u0z (flush x) a=u0z d a:=by
  unfold u0z u43;have hk:u0d a=(((u0d a).toNat:Nat):Int):=by rcases ha with rfl | rfl<;>omega
  have h2:=q7v e3 (Ev _ (by omega)) (u0d a).toNat (by rcases ha with rfl | rfl<;>omega);rw[←hk] at h2;rw[t7z x1,h2]
 have hsz:(r89 y a).size=(r89 (flush x) a).size:=by rw[(u79 fy ha).2.1,(u79 fx ha).2.1]
 have hra:u0c y a=((u0c d a).1++ [t],(u0c d a).2.1+((u0u t).size:Int),true):=by
  rw[t4d fy ha,hcnt,e1];have hm:(u0z d a+1).toNat=(u0z d a).toNat+1:=by omega
  rw[hm];have hloc:=q5x hsz hfx (fun q hq=>hareaT q (by omega));rw[hcx] at hloc;have hrs:=p6i (T:=r89 y a) (E:=E) e4 e5 (by rw[(u79 fy ha).2.1];exact e2) (fun q hq=>by rw[hareaT _ (by omega)];exact s2 E e1 q hq);have:=o09 hloc hrs e4;rw[this];congr 2
 have hlog:u2s y=true:=by
  rw[hother2] at hother;refine p4g y1 y3 y2 ?_ ?_
  .rcases ha with rfl | rfl
   .rw[hra]
   .have:u0c y 0=u0c d 0:=by simpa using hother
    rw[this];exact d4
  .rcases ha with rfl | rfl
   .have:u0c y 1=u0c d 1:=by simpa using hother
    rw[this];exact d5
   .rw[hra]
 exact⟨hlog,hact,hother.trans hother2,hcnt,hra⟩
end Go.Proofs.YtkphhjdbdnoekaaGreatDoor.Ab
