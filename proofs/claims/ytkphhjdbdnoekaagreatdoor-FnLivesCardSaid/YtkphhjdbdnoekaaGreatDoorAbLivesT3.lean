import Derived.Test.YtkphhjdbdnoekaaGreatDoorAbLivesT2
import Derived.Test.YtkphhjdbdnoekaaGreatDoorAbK2
import Derived.Test.YtkphhjdbdnoekaaGreatDoorAbF4
import Derived.Test.YtkphhjdbdnoekaaGreatDoorAbS2
import Derived.Test.YtkphhjdbdnoekaaGreatDoorAbS4
import Derived.Test.YtkphhjdbdnoekaaGreatDoorAbS6
namespace Go.Proofs.YtkphhjdbdnoekaaGreatDoor.Ab
open Go Go.IntKind
set_option linter.unusedVariables false
set_option linter.unusedSimpArgs false
set_option linter.unnecessarySimpa false
set_option linter.unusedSectionVars false
theorem d0q {d:u0j} (hk:u1u d=true) {k:Nat} (hlt:k<d.1.length):(u0k d (k:Int)).2=true/\(u0k d (k:Int)).1.size=64:=by
 obtain⟨k1,k2,k3,k4⟩:=o7r.mp hk;have hc:(0:Int)<=(k:Int)/\(k:Int)<(d.1.length:Int):=by omega
 unfold u0k;rw[Al hc];refine⟨rfl,?_⟩;cases hp:t56 d.2 (k:Int) with
 | none=>
  have e:rdL Ty.str d.1 k=d.1[k] :=y9a (t:=Ty.str) hlt;simp only[Eo,zTn];rw[e];exact k3 _ (Ag hlt)
 | some s=>
  obtain⟨p,hp1,hp2⟩:=p1s hp;simp only[Eb];rw[←hp2];exact(k4 p hp1).2
theorem j4t:∀(f:Nat) {d:u0j} {k at_:Nat} {t:Hs},u1u d=true->at_<64->k*64+at_+t.size<=d.1.length*64->d.2.length+(at_+t.size+63) / 64<=60-> ∃x,p98 f d k at_ t=some x
 | 0,d,k,at_,t,_,_,_,_=>⟨d,rfl⟩ | f+1,d,k,at_,t,hk,hat,h1,h2=>by
  rw[p98];by_cases hz:t.size=0
  .exact⟨d,by rw[Al hz]⟩
  .have hr:=d0q hk (k:=k) (by omega);rw[Ao hz,Al hr];have hsz:((u0k d (k:Int)).1.extract 0 at_++t.extract 0 (min t.size (64 - at_))++(u0k d (k:Int)).1.extract (at_+min t.size (64 - at_)) 64).size=64:=by
    simp only[Af,Bd,hr.2];omega
   have hin:r8x (k:Int) 0 ((d.1.length:Int) - 1)=true:=by simp[r8x];omega
   have hok:u1u (d.1,d.2++ [((k:Int),(u0k d (k:Int)).1.extract 0 at_++t.extract 0 (min t.size (64 - at_))++(u0k d (k:Int)).1.extract (at_+min t.size (64 - at_)) 64)])=true:=by
    rw[r9b,hk,hin,hsz];simp;omega
   have hw:u6y d (k:Int) ((u0k d (k:Int)).1.extract 0 at_++t.extract 0 (min t.size (64 - at_))++(u0k d (k:Int)).1.extract (at_+min t.size (64 - at_)) 64)=some (d.1,d.2++ [((k:Int),(u0k d (k:Int)).1.extract 0 at_++t.extract 0 (min t.size (64 - at_))++(u0k d (k:Int)).1.extract (at_+min t.size (64 - at_)) 64)]):=by
    unfold u6y;rw[Al hok]
   rw[hw];simp only[zOb];have hs2:(t.extract (min t.size (64 - at_)) t.size).size=t.size - min t.size (64 - at_):=by rw[Bd];omega
   refine j4t f hok (by omega) ?_ ?_
   .rw[hs2];show _<=d.1.length*64;omega
   .rw[hs2];simp only[Ba,Aw];omega
theorem j79 {d:u0j} {a:Int} {t:Hs} (hl:u2s d=true) (ha:a=0\/a=1) (h0:t.size≠0) (h1:t.size<=3008) (h2:u0z d a<255) (h3:(u0c d a).2.1+((u0u t).size:Int)<=3008):∃x,t1k d a t=some x:=by
 obtain⟨d1,d2,d3,d4,d5⟩:=u53 hl;obtain⟨f1,f2⟩:=t01 ha;have hat:=r9y d a;have hok:(u0c d a).2.2=true:=by rcases ha with rfl | rfl<;>assumption
 have hsp:=s7u t;unfold t1k;rw[Ao (by rw[hok];simp only[Fm,false_or];omega)];unfold u7i;have hc:(r8x (u0c d a).2.1 0 6400&&r8x (u0d a+1) 0 ((d.1.length:Int) - 1)&&u1u d)=true:=by
  rw[d1,d2];simp only[r8x,Ai,Ar,and_true];rcases ha with rfl | rfl<;>omega
 rw[Al hc];refine j4t _ d1 (Ev _ (by omega)) ?_ ?_
 .rw[d2];rcases ha with rfl | rfl<;>omega
 .rw[d3];simp only[Cc];omega
theorem d2u {d:u0j} {a:Int} {t:Hs} (hl:u2s d=true) (ha:a=0\/a=1) (h0:t.size≠0) (h1:t.size<=3008) (h2:u0z d a<255) (h3:(u0c d a).2.1+((u0u t).size:Int)<=3008):∃y,p4i d a t=some y:=by
 obtain⟨x,hx⟩:=j79 hl ha h0 h1 h2 h3;unfold p4i;rw[hx];exact⟨_,rfl⟩
def j8p (l:Hu Hs):Nat:=(l.map fun t=>(u0u t).size).sum
theorem j3j {a:Int} (ha:a=0\/a=1):∀ {l:Hu Hs} {x:u0j},u2s x=true->u0z x a+(l.length:Int)<=255->(u0c x a).2.1+(j8p l:Int)<=3008->(∀t∈l,t.size≠0/\t.size<=3008)->
 ∃y,r3a a l x=some y/\u2s y=true/\u0n y=u0n x/\u0c y (1 - a)=u0c x (1 - a)/\(u0c y a).1=(u0c x a).1++l
 | [],x,hl,_,_,_=>⟨x,rfl,hl,rfl,rfl,by simp⟩ | t::l,x,hl,hc,hr,ht=>by
  have h0:=ht t (C9 ..);have hs:j8p (t::l)=(u0u t).size+j8p l:=by simp[j8p]
  simp only[Bc] at hc;obtain⟨y,hy⟩:=d2u hl ha h0.1 h0.2 (by omega) (by omega);obtain⟨p1,p2,p3,p4,p5⟩:=d0p hl ha hy;obtain⟨z,z1,z2,z3,z4,z5⟩:=j3j ha (l:=l) p1 (by omega) (by rw[p5];simp only;omega) (fun t h=>ht t (Bm _ h));refine⟨z,?_,z2,z3.trans p2,z4.trans p3,?_⟩
  .unfold r3a;rw[hy];exact z1
  .rw[z5,p5];simp
theorem j8a {d:u0j} (hl:u2s d=true) {a n:Int} (ha:a=0\/a=1):∃z r,r27 d a n=some z/\u1u z=true/\z.1=d.1/\z.2= [(u0d a,t97 n++r)] /\ ∀j:Int,u0k (flush z) j=if j=u0d a then(t97 n++r,true) else u0k d j:=by
 obtain⟨d1,d2,d3,d4,d5⟩:=u53 hl;obtain⟨f1,f2⟩:=t01 ha;have hob:=p1v (s:=u0d a) d1 d3 (by omega) (by rw[d2];rcases ha with rfl | rfl<;>omega) (u2z n);have hz1:=(t09 hob).2.1;refine⟨_,_,hob,hz1,rfl,rfl,fun j=> ?_⟩;rw[t7z hz1];by_cases e:j=u0d a
 .rw[Al e,e];unfold u0k;rw[Al (by show _/\_<(d.1.length:Int);rw[d2];rcases ha with rfl | rfl<;>omega)];simp[t56]
 .rw[Ao e];have hne: ¬u0d a=j:=fun z=>e z.symm
  unfold u0k;simp only[t56,Bs,List.foldl_nil,hne,Bk,d3]
theorem o3f {d:u0j} (hl:u2s d=true):u2s (s75 d)=true/\u0n (s75 d)=u0n d/\u0c (s75 d) (u0n d)=u0c d (u0n d)/\u0c (s75 d) (u7f d)=([],0,true)/\u0z (s75 d) (u7f d)=0:=by
 obtain⟨a1,a2⟩:=s3l d;obtain⟨z,r,hz,hz1,hz2,hz3,hrd⟩:=j8a hl (n:=0) a1;obtain⟨d1,d2,d3,d4,d5⟩:=u53 hl;have e:s75 d=flush z:=by unfold s75;rw[hz];rfl
 obtain⟨c1,c2,c3⟩:=s2m hz1;have hlen:(flush z).1.length=97:=by rw[c3,hz2];exact d2
 obtain⟨f1,f2⟩:=t01 a1;rw[e];have hcnt:u0z (flush z) (u7f d)=0:=by
  unfold u0z u43;rw[d2b.mpr a1,Al rfl,hrd,Al rfl];exact o1g 0 r (by omega) (by omega)
 have ho:u0c (flush z) (u7f d)=([],0,true):=by
  rw[t4d (r0o c1 hlen) a1,hcnt];rfl
 have hother:u0c (flush z) (1 - u7f d)=u0c d (1 - u7f d):=by
  refine t5x (fun q hq=> ?_);have ho:=(t01 (a:=1 - u7f d) (by omega)).1;rw[hrd,Ao (by omega)]
 rw[←a2] at hother;have hact:u0n (flush z)=u0n d:=r40 (by rw[hrd,Ao (by omega)]);have hok:(u0c d (u0n d)).2.2=true:=by rcases t7u d with q | q<;>rw[q] <;>assumption
 refine⟨p4g c1 hlen c2 ?_ ?_,hact,hother,ho,hcnt⟩
 .rcases a1 with q | q
  .rw[q] at ho;rw[ho]
  .have q2:u0n d=0:=by omega
   rw[q2] at hother hok;rw[hother];exact hok
 .rcases a1 with q | q
  .have q2:u0n d=1:=by omega
   rw[q2] at hother hok;rw[hother];exact hok
  .rw[q] at ho;rw[ho]
theorem j2m {z:u0j} {s:Int} {b:Hs} (hk:u1u z=true) (hz:z.2= [(s,b++(rdL Ty.str z.1 s.toNat).extract 1 64)]) (hb:b.size=1) (keep:Hu Int) (tear:Int):
 (p1q keep 0=false->t2i z keep tear=(z.1, []))/\(p1q keep 0=true->1<=t8e tear->t2i z keep tear=flush z)/\(t2i z keep tear=(z.1, [])\/t2i z keep tear=flush z):=by
 obtain⟨k1,k2,k3,k4⟩:=o7r.mp hk;have hs:=(k4 (s,b++(rdL Ty.str z.1 s.toNat).extract 1 64) (by rw[hz];simp)).1;have hlt:s.toNat<z.1.length:=by
  have h1:0<=s:=hs.1;have h2:s<(z.1.length:Int):=hs.2;omega
 have ht:=(p4s tear).1;have eo:rdL Ty.str z.1 s.toNat=z.1[s.toNat] :=y9a (t:=Ty.str) hlt;have hold:(rdL Ty.str z.1 s.toNat).size=64:=by rw[eo];exact k3 _ (Ag hlt)
 have hlen:z.2.length=1:=by rw[hz];rfl
 have h0:rdL o7j z.2 0=(s,b++(rdL Ty.str z.1 s.toNat).extract 1 64):=by rw[hz];rfl
 have hc:t2i z keep tear=(t2j z keep (u0r keep 1) (t8e tear) z.1 0, []):=by
  unfold t2i;rw[Al hk,hlen];rfl
 have hfl:flush z=(s7t z.1 (s,b++(rdL Ty.str z.1 s.toNat).extract 1 64), []):=by
  unfold flush;rw[Al hk,hz];rfl
 have hno:p1q keep 0=false->t2i z keep tear=(z.1, []):=fun h=>by
  rw[hc];unfold t2j;rw[h,Ao (by simp)]
 have hyes:p1q keep 0=true->t2i z keep tear=(s7t z.1 (s,(b++(rdL Ty.str z.1 s.toNat).extract 1 64).extract 0 (t8e tear)++(rdL Ty.str z.1 s.toNat).extract (t8e tear) 64), []):=fun h=>by
  have hlast:u0r keep 1=0:=by
   show(if p1q keep 0 then((0:Nat):Int) else u0r keep 0)=0;rw[Al h];rfl
  rw[hc];unfold t2j;rw[h,Al rfl,hlast,Al (by rfl),h0];simp only[hold]
 have hfull:p1q keep 0=true->1<=t8e tear->t2i z keep tear=flush z:=fun h h1=>by
  rw[hyes h,hfl];congr 2;congr 1;apply p4a
  .simp only[Af,Bd,hold,hb];omega
  .intro i hi;simp only[Af,Bd,hold,hb] at hi;rw[u8j,u3w,u3w];simp only[Af,Bd,hold,hb];by_cases h2:i<t8e tear
   .rw[Al (by omega),Al (by omega),Co]
   .rw[Ao (by omega),Al (by omega),u8j,Ao (by omega),u3w,hb,hold,Al (by omega)];congr 1;omega
 refine⟨hno,hfull,?_⟩;cases h:p1q keep 0 with
 | false=>exact .inl (hno h) | true=>
  by_cases h1:1<=t8e tear
  .exact .inr (hfull h h1)
  .left;have ht0:t8e tear=0:=by omega
   rw[hyes h,ht0];congr 1;have e1:(b++(rdL Ty.str z.1 s.toNat).extract 1 64).extract 0 0++(rdL Ty.str z.1 s.toNat).extract 0 64=rdL Ty.str z.1 s.toNat:=by
    apply p4a
    .simp only[Af,Bd,hold,hb];omega
    .intro i hi;simp only[Af,Bd,hold,hb] at hi;rw[u8j,Ao (by rw[Bd];omega),u3w,hold,Al (by rw[Bd];omega)];congr 1;rw[Bd];omega
   rw[e1];unfold s7t;show z.1.set s.toNat (rdL Ty.str z.1 s.toNat)=z.1;rw[eo];exact List.set_getElem_self hlt
theorem o1h {d:u0j} (hl:u2s d=true) {a n:Int} (ha:a=0\/a=1) (keep:Hu Int) (tear:Int):∃z,r27 d a n=some z/\
 (p1q keep 0=false->t2i z keep tear=d)/\(p1q keep 0=true->1<=t8e tear->t2i z keep tear=flush z)/\(t2i z keep tear=d\/t2i z keep tear=flush z):=by
 obtain⟨d1,d2,d3,d4,d5⟩:=u53 hl;obtain⟨f1,f2⟩:=t01 ha;have hob:=p1v (s:=u0d a) d1 d3 (by omega) (by rw[d2];rcases ha with rfl | rfl<;>omega) (u2z n);have hz1:=(t09 hob).2.1;have hd:(d.1,([] :Hu (Int×Hs)))=d:=by rw[←d3]
 obtain⟨c1,c2,c3⟩:=j2m hz1 rfl (u2z n) keep tear;rw[hd] at c1 c3;exact⟨_,hob,c1,c2,c3⟩
theorem o7q {x:u0j} (hl:u2s x=true) (keep:Hu Int) (tear:Int):∃z,j6e x=some z/\u1u z=true/\(∀j:Int,u0k (flush z) j=if j=0 then(t97 (i64.wrap (u43 x 0+1))++(rdL Ty.str x.1 0).extract 1 64,true) else u0k x j)/\(flush z).1.length=97/\
 (p1q keep 0=false->t2i z keep tear=x)/\(p1q keep 0=true->1<=t8e tear->t2i z keep tear=flush z)/\(t2i z keep tear=x\/t2i z keep tear=flush z):=by
 obtain⟨d1,d2,d3,d4,d5⟩:=u53 hl;have hob:=p1v (s:=0) d1 d3 (by omega) (by rw[d2];omega) (u2z (i64.wrap (u43 x 0+1)));have hz1:=(t09 hob).2.1;have hd:(x.1,([] :Hu (Int×Hs)))=x:=by rw[←d3]
 obtain⟨c1,c2,c3⟩:=j2m hz1 rfl (u2z (i64.wrap (u43 x 0+1))) keep tear;rw[hd] at c1 c3;refine⟨_,hob,hz1,fun j=> ?_,by rw[(s2m hz1).2.2];exact d2,c1,c2,c3⟩;rw[t7z hz1];by_cases e:j=0
 .rw[Al e,e];unfold u0k;rw[Al (by show _/\_<(x.1.length:Int);rw[d2];omega)];simp[t56]
 .rw[Ao e];have hne: ¬(0:Int)=j:=fun z=>e z.symm
  unfold u0k;simp only[t56,Bs,List.foldl_nil,hne,Bk,d3]
theorem d3c {x z:u0j} (hl:u2s x=true) (hz1:u1u z=true) (hlen:(flush z).1.length=97) (hrd:∀j:Int,u0k (flush z) j=if j=0 then(t97 (i64.wrap (u43 x 0+1))++(rdL Ty.str x.1 0).extract 1 64,true) else u0k x j):
 u2s (flush z)=true/\u0n (flush z)=1 - u0n x/\u0c (flush z) 0=u0c x 0/\u0c (flush z) 1=u0c x 1:=by
 obtain⟨d1,d2,d3,d4,d5⟩:=u53 hl;obtain⟨c1,c2,c3⟩:=s2m hz1;have r0:u0c (flush z) 0=u0c x 0:=t5x (fun q hq=>by
  have:=(t01 (a:=0) (.inl rfl)).1;rw[hrd,Ao (by omega)])
 have r1:u0c (flush z) 1=u0c x 1:=t5x (fun q hq=>by
  have:=(t01 (a:=1) (.inr rfl)).1;rw[hrd,Ao (by omega)])
 have hb:=o9b (u0k x 0).1;refine⟨p4g c1 hlen c2 (by rw[r0];exact d4) (by rw[r1];exact d5),?_,r0,r1⟩;unfold u0n u43;rw[hrd,Al rfl];have w:i64.wrap (u43 x 0+1)=u43 x 0+1:=by unfold u43;exact y5f (by omega) (by omega)
 have e:p8m (t97 (i64.wrap (u43 x 0+1))++(rdL Ty.str x.1 0).extract 1 64)=(u43 x 0+1) % 256:=by
  rw[w,p5o,u8j,Al (by rw[u2z];omega)];unfold t97 s8y;rw[r1r,j6g];simp only[u8s,C8,Eh,List.getD_cons_zero];rw[Gg];omega
 show Int.tmod (p8m _) 2=_;rw[e];have hf:u43 x 0=p8m (u0k x 0).1:=rfl;rw[hf];generalize p8m (u0k x 0).1=n at*;obtain⟨m,rfl⟩:∃m:Nat,n=(m:Int):=⟨n.toNat,by omega⟩;have t1:Int.tmod (m:Int) 2=((m % 2:Nat):Int):=j4m m 2;have t2:Int.tmod (((m:Int)+1) % 256) 2=((((m+1) % 256) % 2:Nat):Int):=by
  have:((m:Int)+1) % 256=(((m+1) % 256:Nat):Int):=by omega
  rw[this];exact j4m ((m+1) % 256) 2
 rw[t1,t2];omega
theorem o7k {d y:u0j} {t:Hs} (h:append_ d t=some y):u2s d=true/\u2s y=true/\u0h y=u0h d++ [t] :=by
 unfold append_ at h;split at h
 .rename_i hl;obtain⟨p1,p2,p3,p4,p5⟩:=d0p hl (t7u d) h;refine⟨hl,p1,?_⟩;unfold u0h;rw[p2,p5]
 .cases h
theorem o47 {d y:u0j} {t:Hs} (h:append_ d t=some y) (step:Int) (keep:Hu Int) (tear:Int):
 (step=0->p5k d (u2v d t step keep tear))/\(step≠0->step≠1->u2v d t step keep tear=y)/\
 (step=1->(p1q keep 0=false->p5k d (u2v d t step keep tear))/\(p1q keep 0=true->1<=t8e tear->u2v d t step keep tear=y)/\(p5k d (u2v d t step keep tear)\/u2v d t step keep tear=y)):=by
 have ha:=t7u d;obtain⟨hl,x,z,hb,k1,k2,hz,k3,k4⟩:=r26 h;have hput:p4i d (u0n d) t=some y:=by unfold append_ at h;rw[hl,Al rfl] at h;exact h
 have hy:y=flush z:=by
  unfold p4i at hput;rw[hb] at hput;simp only[Dc,Ac] at hput;rw[hz] at hput;simp only[orD] at hput;exact hput.symm
 have hs:=(o3h hl ha hb).1;obtain⟨z',hz',c1,c2,c3⟩:=o1h hs.1 (n:=s3k d (u0n d)) ha keep tear;rw[hz] at hz';cases hz';have e0:∀st,u2v d t st keep tear=(if st=0 then t2i x keep tear else if st=1 then t2i z keep tear else y):=fun st=>by
  unfold u2v;rw[h];simp only[hb,orD,hz]
 refine⟨fun s0=> ?_,fun n0 n1=> ?_,fun s1=> ?_⟩
 .rw[e0,Al s0];exact j5n hl ha hb keep tear
 .rw[e0,Ao n0,Ao n1]
 .have e:u2v d t step keep tear=t2i z keep tear:=by rw[e0,Ao (by omega),Al s1]
  rw[e,hy];exact⟨fun q=>by rw[c1 q];exact hs,fun q r=>c2 q r,c3.imp (fun q=>by rw[q];exact hs) id⟩
theorem o46 {d:u0j} {t:Hs} (h:append_ d t=none) (step:Int) (keep:Hu Int) (tear:Int):u2v d t step keep tear=d:=by
 unfold u2v;rw[h]
theorem d16 {d:u0j} {l:Hu Hs} (hl:u2s d=true) (hn:l.length<=255) (hr:j8p l<=3008) (ht:∀t∈l,t.size≠0/\t.size<=3008):
 ∃x,r9d d l=some x/\u2s x=true/\u0n x=u0n d/\u0h x=u0h d/\(u0c x (u7f d)).1=l:=by
 obtain⟨a1,a2⟩:=s3l d;obtain⟨f1,f2,f3,f4,f5⟩:=o3f hl;obtain⟨y,y1,y2,y3,y4,y5⟩:=j3j a1 (l:=l) f1 (by rw[f5];omega) (by rw[f4];simp only;omega) ht;rw[←a2] at y4;refine⟨y,by unfold r9d;rw[hl,Al rfl];exact y1,y2,y3.trans f2,?_,by rw[y5,f4];simp⟩;unfold u0h;rw[y3.trans f2,y4,f3]
theorem j8f {d x:u0j} {l:Hu Hs} (hx:r9d d l=some x) (h1:u2s x=true) (h2:u0n x=u0n d) (h3:u0h x=u0h d) (h4:(u0c x (u7f d)).1=l) (hl:u2s d=true):
 ∃y,r50 d l=some y/\u2s y=true/\u0h y=l/\ ∀(step:Int) (keep:Hu Int) (tear:Int),
  (step=0->u2s (t7v d l step keep tear)=true/\u0h (t7v d l step keep tear)=u0h d)/\(step=1->t7v d l step keep tear=x)/\
  (step≠0->step≠1->step≠2->t7v d l step keep tear=y)/\
  (step=2->(p1q keep 0=false->t7v d l step keep tear=x)/\(p1q keep 0=true->1<=t8e tear->t7v d l step keep tear=y)/\(t7v d l step keep tear=x\/t7v d l step keep tear=y)):=by
 obtain⟨a1,a2⟩:=s3l d;obtain⟨z,hz,hz1,hrd,hlen,_⟩:=o7q h1 [] 0;obtain⟨t1,t2,t3,t4⟩:=d3c h1 hz1 hlen hrd;have hsw:r50 d l=some (flush z):=by unfold r50;rw[hx];simp only[Dc,hz,orD]
 have htx:u0h (flush z)=l:=by
  have ho:u0n (flush z)=u7f d:=by rw[t2,h2];rfl
  unfold u0h;rw[ho,←h4];rcases a1 with q | q<;>rw[q]
  .rw[t3]
  .rw[t4]
 refine⟨flush z,hsw,t1,htx,fun step keep tear=> ?_⟩;obtain⟨c,hc,c1,c2,c3⟩:=o1h hl (n:=0) a1 keep tear;obtain⟨z',hz',_,_,_,g1,g2,g3⟩:=o7q h1 keep tear;rw[hz] at hz';cases hz';have e0:∀st,t7v d l st keep tear=(if st=0 then t2i c keep tear else if st=1 then x else if st=2 then t2i z keep tear else flush z):=fun st=>by
  unfold t7v;rw[hx];simp only[hc,orD,hz]
 have hf0:flush c=s75 d:=by unfold s75;rw[hc];rfl
 obtain⟨f1,f2,f3,f4,f5⟩:=o3f hl;have htx0:u0h (s75 d)=u0h d:=by unfold u0h;rw[f2,f3]
 refine⟨fun s0=> ?_,fun s1=> ?_,fun n0 n1 n2=> ?_,fun s2=> ?_⟩
 .rw[e0,Al s0];rcases c3 with q | q
  .rw[q];exact⟨hl,rfl⟩
  .rw[q,hf0];exact⟨f1,htx0⟩
 .rw[e0,Ao (by omega),Al s1]
 .rw[e0,Ao n0,Ao n1,Ao n2]
 .have e:t7v d l step keep tear=t2i z keep tear:=by rw[e0,Ao (by omega),Ao (by omega),Al s2]
  rw[e];exact⟨g1,g2,g3⟩
structure Like0 (b e:u0m):Prop where
 vs:b.1=q61 e.1 e.2.2.2.1
 past:b.2.1= []
 ready:b.2.2.1=e.2.2.1
 cs:b.2.2.2.1=e.2.2.2.1
theorem d5o {b:u0m} {n:Hs} :u0l b n<0↔ ∀x∈b.2.2.1,x.2.2.2.2.2.2.2≠n:=by
 unfold u0l;constructor
 .intro h x hx e;obtain⟨i,hi,rfl⟩:=B7 hx;obtain⟨k,hk,hr⟩:=j8m b hi e;unfold u0l at hr;rw[hr] at h;omega
 .intro h;split
  .rename_i q;have:=u9u q;exact absurd (y7r.mp this) (h _ (Ag q))
  .omega
theorem s27 {b:u0m} {n:Hs} (h: ¬u0l b n<0):∃(k:Nat) (hk:k<b.2.2.1.length),u0l b n=(k:Int)/\b.2.2.1[k].2.2.2.2.2.2.2=n:=by
 unfold u0l at h ⊢;split at h
 .rename_i q;rw[Al q];exact⟨_,q,rfl,y7r.mp (u9u q)⟩
 .omega
theorem d0h:BaseR d32:=by
 refine⟨rfl,fun v h=>(by cases h),⟨Bv _,by decide⟩,⟨by decide,by decide⟩,by decide,fun t h=>(by cases h),List.Pairwise.nil,by decide,fun t h=>(by cases h),List.Pairwise.nil,fun x h=>(by cases h),List.Pairwise.nil⟩
theorem o8g {d y:u0j} {t:Hs} (h:r50 d [t] =some y):u2s d=true/\u2s y=true/\u0h y= [t] :=by
 obtain⟨x,hx⟩:∃x,r9d d [t] =some x:=by
  cases q:r9d d [t] with
  | none=>unfold r50 at h;rw[q] at h;cases h | some x=>exact⟨x,rfl⟩
 have hl:u2s d=true:=by
  unfold r9d at hx;split at hx
  .assumption
  .cases hx
 obtain⟨a1,a2⟩:=s3l d;obtain⟨f1,f2,f3,f4,f5⟩:=o3f hl;have hp:∃z,p4i (s75 d) (u7f d) t=some z:=by
  unfold r9d at hx;rw[Al hl] at hx;cases q:p4i (s75 d) (u7f d) t with
  | none=>simp only[r3a,q] at hx;cases hx | some z=>exact⟨z,rfl⟩
 obtain⟨z,hz⟩:=hp;obtain⟨w,hw,_⟩:=j7h (u53 f1).2.1 hz;obtain⟨E,hE,g1,g2,g3,g4,g5⟩:=o0c hw;obtain⟨x',x1,x2,x3,x4,x5⟩:=d16 (l:= [t]) hl (by simp) (by simp[j8p];omega) (fun u hu=>by simp at hu;subst hu;exact⟨g3,g4⟩);rw[hx] at x1;cases x1;obtain⟨y',y1,y2,y3,_⟩:=j8f hx x2 x3 x4 x5 hl;rw[h] at y1;cases y1;exact⟨hl,y2,y3⟩
def j6t (d:u0j):Ht u0j:=match r5c (u0h d) with
 | none=>none | some b=>if(u0v (4,u6a,emp,false,b)).2=true then r50 d [(u0v (4,u6a,emp,false,b)).1] else none
def t71 (d:u0j) (r:r2l):Ht u0j:=
 if(u0v r).2=true then(match append_ d (u0v r).1 with
  | some y=>some y | none=>match j6t d with
   | none=>none | some z=>append_ z (u0v r).1)
 else none
abbrev u2k:=u3m×u0j
def j1e:r2l:=(0,u6a,emp,false,u70)
def u2w (o:Hu u0e) (id:Int):Int:=if u0o (fun x:u0e=>decide (x.1=id)) o<o.length then((u0o (fun x:u0e=>decide (x.1=id)) o:Nat):Int) else -1
def u9a (e:u3m) (id:Int):u0e:=rdL u01 e.2 (u2w e.2 id).toNat
def t1l (e:u3m):Hu u0e:=e.1.2.1++e.1.2.2.1
def s77 (e:u3m) (id:Int):Int:=
 if u2w e.2 id<0 then 1 else if q5z (u9a e id) (t1l e)=true then 4 else if q97 (u9a e id) (t1l e)=true then 5 else if r0n e.1=true then 3 else 0
def u80 (e:u3m) (id:Int):u3m×r2l×Int:=
 if s77 e id=1 then(e,j1e,1) else if s77 e id=0 then(p1e e (u9a e id),(1,p1f e.1 (u9a e id),emp,false,u70),0) else(leaveE e id,j1e,s77 e id)
def r3w (e:u3m) (id:Int):Int:=
 if s77 e id≠0 then s77 e id else if t8d (u9a e id) (t1l e)=true then 5 else if 3<=e.1.2.2.1.length then 3 else 0
def r2k (e:u3m) (id:Int) (n:Hs):u3m×r2l×Int:=
 if u2w e.2 id<0 then(e,j1e,1) else if t02 n=false then(e,j1e,2) else if 0<=u0l e.1 n then(e,j1e,6)
 else if r3w e id=0 then(j8l e (u9a e id) n,(2,s5j e.1 (u9a e id) n,emp,false,u70),0) else(leaveE e id,j1e,r3w e id)
def o0e (e:u3m) (n:Hs) (yes:Bool):u3m×r2l×Int:=
 if u0l e.1 n<0 then(e,j1e,1) else if yes=true/\r0n e.1=true then(e,j1e,3)
 else if yes=true then(c1z e (rdL u01 e.1.2.2.1 (u0l e.1 n).toNat),(3,u6a,n,true,u70),0) else(noE e n,(3,u6a,n,false,u70),0)
def r7t (e:u3m) (id:Int):u3m×Int:=if u2w e.2 id<0 then(e,1) else(leaveE e id,0)
def s0s (e:u3m):u3m×Int×Int:=if e.2.length<4/\e.1.2.2.2.2<9999 then(d3y e,e.1.2.2.2.2,0) else(e,0,3)
def d46 (l:Hu s5b) (r:s5b):Bool:=l.any fun x=>z7q x.1 r.1&&z7q x.2 r.2
def c1l (t:u0e) (r:s5b):u0e:=(t.1,t.2.1,t.2.2.1,t.2.2.2.1,t.2.2.2.2.1++ [r],t.2.2.2.2.2)
def s9x (t:u0e) (r:s5b):u0e×Bool:=if d46 t.2.2.2.2.1 r=true then(t,true) else if t.2.2.2.2.1.length<8 then(c1l t r,true) else(t,false)
def d0w (t:u0e) (l:Hu WrT):u0e:=(t.1,t.2.1,t.2.2.1,t.2.2.2.1,t.2.2.2.2.1,l,t.2.2.2.2.2.2)
def r4r (t:u0e) (w:WrT):u0e×Bool:=if(p1x t.2.2.2.2.2.1 w).length<=8 then(d0w t (p1x t.2.2.2.2.2.1 w),true) else(t,false)
def r5a (e:u3m) (id:Int) (r:s5b) (right:Bool):u3m×Int:=
 if u2w e.2 id<0 then(e,1) else if right=false then(e,2) else if(s9x (u9a e id) r).2=true then(j59 e (u2w e.2 id).toNat (s9x (u9a e id) r).1,0) else(e,3)
def j7d (e:u3m) (id:Int) (w:WrT):u3m×Int:=
 if u2w e.2 id<0 then(e,1) else if u4c w=false then(e,2) else if(r4r (u9a e id) w).2=true then(j59 e (u2w e.2 id).toNat (r4r (u9a e id) w).1,0) else(e,3)
theorem d6r {o:Hu u0e} {id:Int} :u2w o id<0↔ ∀x∈o,x.1≠id:=by
 unfold u2w;constructor
 .intro h x hx e;obtain⟨i,hi,rfl⟩:=B7 hx;split at h
  .omega
  .rename_i q;have:=u9n (p:=fun x:u0e=>decide (x.1=id)) hi (by have:=t2l (fun x:u0e=>decide (x.1=id)) o;omega);simp[e] at this
 .intro h;split
  .rename_i q;have:=u9u q;simp only[Ar] at this;exact absurd this (h _ (Ag q))
  .omega
theorem u2h {e:u3m} {id:Int} (h: ¬u2w e.2 id<0):∃(k:Nat) (hk:k<e.2.length),u2w e.2 id=(k:Int)/\u9a e id=e.2[k] /\e.2[k].1=id:=by
 unfold u9a;unfold u2w at h ⊢;split at h
 .rename_i q;rw[Al q];refine⟨_,q,rfl,?_,?_⟩
  .rw[zTn];exact y9a (t:=u01) q
  .simpa using u9u q
 .omega
theorem p1p {e:u3m} {id:Int} (h:s77 e id=0): ¬u2w e.2 id<0/\q5z (u9a e id) (t1l e)=false/\q97 (u9a e id) (t1l e)=false/\r0n e.1=false:=by
 unfold s77 at h;split at h
 .omega
 .rename_i h1;split at h
  .omega
  .rename_i h2;split at h
   .omega
   .rename_i h3;split at h
    .omega
    .rename_i h4;exact⟨h1,by simpa using h2,by simpa using h3,by simpa using h4⟩
theorem c1q {e:u3m} {id:Int} :s77 e id=1↔u2w e.2 id<0:=by
 unfold s77;constructor
 .intro h;split at h
  .assumption
  .split at h
   .omega
   .split at h
    .omega
    .split at h<;>omega
 .intro h;rw[Al h]
theorem d0s {e:u3m} {id:Int} (h:u2w e.2 id<0):s46 e id=e.2:=by
 unfold s46;rw[F9];intro x hx;simp[d6r.mp h x hx]
theorem d7r {t:u0e} {r:s5b} (h:TxnR t) (hr:u3a r=true) (hl:t.2.2.2.2.1.length<8):TxnR (c1l t r):=
 ⟨h.id,h.st,h.snap,by show(t.2.2.2.2.1++ [r]).length<=8;simp only[Ba,Aw];omega,h.ws,fun x hx=>by
   rcases Ay.mp hx with hx | hx
   .exact h.rs x hx
   .rw[Ax] at hx;subst hx;exact hr,h.done,h.nocs,h.name,h.noname,h.out⟩
theorem d5n {t:u0e} {r:s5b} (h:TxnR t) (hr:u3a r=true):TxnR (s9x t r).1/\(s9x t r).1.1=t.1/\(s9x t r).1.2.1=t.2.1/\(s9x t r).1.2.2.1=t.2.2.1/\(s9x t r).1.2.2.2.2.2.1=t.2.2.2.2.2.1:=by
 unfold s9x;split
 .exact⟨h,rfl,rfl,rfl,rfl⟩
 .split
  .rename_i q;exact⟨d7r h hr q,rfl,rfl,rfl,rfl⟩
  .exact⟨h,rfl,rfl,rfl,rfl⟩
theorem d0o {l:Hu WrT} {w:WrT} (h:u59 l=true) (hw:u4c w=true) (hl:(p1x l w).length<=8):u59 (p1x l w)=true:=by
 obtain⟨h1,h2,h3⟩:=d4a.mp h;refine d4a.mpr ⟨fun x hx=> ?_,?_,hl⟩
 .rcases j7g hx with hx | rfl
  .exact h1 x hx
  .exact hw
 .unfold p1x;rw[Bi,Cg];refine⟨Dz _ h2,?_,?_⟩
  .rw[Fs,Ch];refine⟨fun y hy=> ?_,Dz _ h2⟩;have:=(A6.mp hy).2;rw[j3q] at this;exact this
  .intro x hx y hy;have h4:=(A6.mp hx).2;rcases Ay.mp hy with hy | hy
   .rw[Ax] at hy;subst hy;exact h4
   .have h5:=(A6.mp hy).2;rw[j3q] at h5;exact p0x h4 h5
theorem d38 {t:u0e} {l:Hu WrT} (h:TxnR t) (hl:u59 l=true):TxnR (d0w t l):=
 ⟨h.id,h.st,h.snap,h.rlen,hl,h.rs,h.done,h.nocs,h.name,h.noname,h.out⟩
theorem d3f {t:u0e} {w:WrT} (h:TxnR t) (hw:u4c w=true):TxnR (r4r t w).1/\(r4r t w).1.1=t.1/\(r4r t w).1.2.1=t.2.1/\(r4r t w).1.2.2.1=t.2.2.1/\(r4r t w).1.2.2.2.2.1=t.2.2.2.2.1:=by
 unfold r4r;split
 .rename_i q;exact⟨d38 h (d0o h.ws hw q),rfl,rfl,rfl,rfl⟩
 .exact⟨h,rfl,rfl,rfl,rfl⟩
theorem d31 {e:u3m} (h:EngR e) {id:Int} {r:s5b} {right:Bool} (hr:right=true->u3a r=true):EngR (r5a e id r right).1:=by
 unfold r5a;split
 .exact h
 .rename_i q;split
  .exact h
  .rename_i hb;split
   .obtain⟨k,hk,e1,e2,e3⟩:=u2h q;obtain⟨o1,o2,o3⟩:=h.open_ _ (Ag hk);rw[e1,zTn,e2];obtain⟨r1,r2,r3,r4,r5⟩:=d5n o1 (hr (by simpa using hb));exact j4j h hk r1 r2 (r3.trans o2) r4
   .exact h
theorem d8b {e:u3m} (h:EngR e) {id:Int} {w:WrT} :EngR (j7d e id w).1:=by
 unfold j7d;split
 .exact h
 .rename_i q;split
  .exact h
  .rename_i hb;split
   .obtain⟨k,hk,e1,e2,e3⟩:=u2h q;obtain⟨o1,o2,o3⟩:=h.open_ _ (Ag hk);rw[e1,zTn,e2];obtain⟨r1,r2,r3,r4,r5⟩:=d3f (w:=w) o1 (by simpa using hb);exact j4j h hk r1 r2 (r3.trans o2) r4
   .exact h
theorem d12 {e:u3m} (h:EngR e):EngR (s0s e).1:=by
 unfold s0s;split
 .rename_i q;exact d4z h q.1 q.2
 .exact h
theorem d2e {e:u3m} (h:EngR e) (id:Int):EngR (r7t e id).1:=by
 unfold r7t;split
 .exact h
 .exact p1u h id
theorem j92 {e:u3m} (h:EngR e) (id:Int):EngR (u80 e id).1:=by
 unfold u80;split
 .exact h
 .split
  .rename_i _ q;obtain⟨h1,h2,h3,h4⟩:=p1p q;obtain⟨k,hk,e1,e2,e3⟩:=u2h h1;rw[e2];exact j6z h (Ag hk) h4
  .exact p1u h id
structure Sync (s:u2k) (b:u0m):Prop where
 eng:EngR s.1
 log:u2s s.2=true
 play:r5c (u0h s.2)=some b
 right:BaseR b
 like:Like0 b s.1.1
def u6x (s:u2k) (id:Int):u2k×Int:=
 if(u80 s.1 id).2.2=0 then(match t71 s.2 (u80 s.1 id).2.1 with
  | some d=>(((u80 s.1 id).1,d),0) | none=>((leaveE s.1 id,s.2),3))
 else(((u80 s.1 id).1,s.2),(u80 s.1 id).2.2)
def p4q (s:u2k) (id:Int) (n:Hs):u2k×Int:=
 if(r2k s.1 id n).2.2=0 then(match t71 s.2 (r2k s.1 id n).2.1 with
  | some d=>(((r2k s.1 id n).1,d),0) | none=>((leaveE s.1 id,s.2),3))
 else(((r2k s.1 id n).1,s.2),(r2k s.1 id n).2.2)
def t7d (s:u2k) (n:Hs) (yes:Bool):u2k×Int:=
 if(o0e s.1 n yes).2.2=0 then(match t71 s.2 (o0e s.1 n yes).2.1 with
  | some d=>(((o0e s.1 n yes).1,d),0) | none=>(s,3))
 else(s,(o0e s.1 n yes).2.2)
def d1m (s:u2k):u2k×Bool:=match j6t s.2 with
 | some d=>((s.1,d),true) | none=>(s,false)
theorem d35 {e:u3m} {id:Int} (h:r3w e id=0):s77 e id=0/\t8d (u9a e id) (t1l e)=false/\e.1.2.2.1.length<3:=by
 unfold r3w at h;split at h
 .rename_i q;exact absurd h q
 .rename_i q;split at h
  .omega
  .rename_i q2;split at h
   .omega
   .exact⟨by omega,by simpa using q2,by omega⟩
def K5:Hu Hs:= [⟨#[97]⟩,⟨#[98]⟩,⟨#[99]⟩,⟨#[100]⟩,⟨#[97,98]⟩]
structure DomT (t:u0e):Prop where
 ws:∀w∈t.2.2.2.2.2.1,w.1∈K5
 rs:∀r∈t.2.2.2.2.1,r.1∈K5/\r.2∈K5
structure DomB (b:u0m):Prop where
 vs:∀v∈b.1,v.1∈K5
 ready:∀t∈b.2.2.1,DomT t
structure DomE (e:u3m):Prop where
 base:DomB e.1
 open_:∀t∈e.2,DomT t
def Num (k:Nat) (e:u3m):Prop:=e.1.2.2.2.1<=(k:Int)/\e.1.2.2.2.2<=(k:Int)+1
structure Stt (k:Nat) (s:u2k):Prop where
 sync:∃b,Sync s b/\b.2.2.2.2<=(k:Int)+1
 dom:DomE s.1
 num:Num k s.1
def o67 (H:Hu u0e) (e' :u3m) (r6t:Int) (t:u0e):Hu u0e:=
 if e'.1.2.2.2.1=i64.wrap (r6t+1) then H++ [d2z e'.1.2.2.2.1 t] else H
theorem j6c {H:Hu u0e} {e' :u3m} {c:Int} (t:u0e) (hc:j83 c) (h:e'.1.2.2.2.1=c):o67 H e' c t=H:=by
 unfold o67;rw[s21 hc,Ao (by omega)]
theorem j06 {H:Hu u0e} {e' :u3m} {c:Int} (t:u0e) (hc:j83 c) (h:e'.1.2.2.2.1=c+1):o67 H e' c t=H++ [d2z (c+1) t] :=by
 unfold o67;rw[s21 hc,Al h,h]
def HB (H:Hu u0e) (s:u2k):Prop:= ∃b,Sync s b/\ ∀x∈H,x.1<b.2.2.2.2
theorem j9y (v:Nat):(bif decide ((v:Int)<97) then some true else some (decide ((v:Int) >122)))=some (!(decide (97<=v)&&decide (v<=122))):=by
 have e1:decide ((v:Int)<97)= !decide (97<=v):=by by_cases h:97<=v<;>simp[h] <;>omega
 have e2:decide ((v:Int) >122)= !decide (v<=122):=by by_cases h:v<=122<;>simp[h] <;>omega
 rw[e1,e2];cases decide (97<=v)<;>cases decide (v<=122)<;>rfl
theorem q7w (a b c:Int):u0t (a,b,c)=some (inB a b c):=s49 a b c
theorem r6y (a b c:Int):u0q (a,b,c)=some (inB a b c):=s6q a b c
theorem s0l {X R:Type} (W:X->Ht R) (n:Nat) (mk:Int->X) (ok:Nat->Bool) (yes no:R) (hend:W (mk (n:Int))=some yes)
 (hstep:∀(i:Nat),i<n->W (mk (i:Int))=bif ok i then W (mk ((i+1:Nat):Int)) else some no):W (mk 0)=some (bif (List.range n).all ok then yes else no):=by
 have key:∀d i:Nat,i+d=n->W (mk (i:Int))=some (bif (List.range d).all (fun j=>ok (i+j)) then yes else no):=by
  intro d
  induction d with
  | zero=>intro i hi;have:i=n:=by omega
          subst this;simpa using hend
  | succ d ih=>
   intro i hi;rw[hstep i (by omega),ih (i+1) (by omega),List.range_succ_eq_map,Gc,List.all_map,Df];have e:((fun j=>ok (i+j)) ∘Nat.succ)=fun j=>ok (i+1+j):=by funext j;simp only[Function.comp];congr 1;omega
   rw[e];cases ok i<;>rfl
 have:=key n 0 (by omega);simpa using this
theorem r0i {t:Ty} (l:Hu t.den) (f:t.den->Bool):((List.range l.length).all fun i=>f (rdL t l i))=l.all f:=by
 rw[Cd,Bg,Bg];constructor
 .intro h x hx;obtain⟨i,hi,rfl⟩:=B7 hx;have:=h i (Bq.mpr hi)
  rwa [y9a hi] at this
 .intro h i hi;rw[y9a (Bq.mp hi)];exact h _ (Ag _)
theorem j9s {α:Type} (l:Hu α) (f g:α->Bool):(l.all fun i=>f i&&g i)=(l.all f&&l.all g):=by
 induction l with
 | nil=>rfl | cons x l ih=>simp only[Gc,ih];cases f x<;>cases g x<;>simp
theorem r41 {t:Ty} (l:Hu t.den) (f:t.den->Bool) (lt:t.den->t.den->Bool):
 ((List.range l.length).all fun i=>f (rdL t l i)&&(decide (i=0) || lt (rdL t l (i - 1)) (rdL t l i)))=(l.all f&&o45 t lt l):=by
 rw[j9s (List.range l.length) (fun i=>f (rdL t l i)) (fun i=>decide (i=0) || lt (rdL t l (i - 1)) (rdL t l i)),r0i];rfl
theorem s6r (i:Nat):decide ((i:Int) >0)= !decide (i=0):=by by_cases h:i=0<;>simp[h] <;>omega
theorem s09 {i:Nat} (h:i<4611686018427387904) (h0:i≠0):i64.wrap ((i:Int) - (1:Int))=((i - 1:Nat):Int):=by
 rw[y5f (by omega) (by omega)];omega
theorem j0r (s:Hs) {i:Nat} (h:i<s.size):s.data.toList.getD i 0=s.data.toList[i]'h:=by
 rw[A5,A4 h];rfl
theorem s3a (s:Hs) (hs:s.size<=u0i):u9d s=some (t02 s):=by
 have hb:u0i=1099511627776:=rfl
 have L:=s0l s6g s.size (fun i=>(s,i)) (fun i=>(fun b:UInt8=>decide (97<=b.toNat)&&decide (b.toNat<=122)) (s.data.toList.getD i 0)) (.inl s) (.inr false)
  (by rw[p0z];simp only[s56,u0b,Am,Ah,Aa])
  (fun i hi=>by
   rw[p0z];simp only[s56,u0b,hi,Ae,Ad,y8h hi,zTn,y7x (show i<4611686018427387904 by omega)];rw[j9y];simp only[zOb];cases (decide (97<=(s.data.toList.getD i 0).toNat)&&decide ((s.data.toList.getD i 0).toNat<=122))<;>rfl)
 have hA:((List.range s.size).all fun i=>(fun b:UInt8=>decide (97<=b.toNat)&&decide (b.toNat<=122)) (s.data.toList.getD i 0))=s.data.toList.all (fun b=>decide (97<=b.toNat)&&decide (b.toNat<=122)):=by
  rw[Cd,Bg,Bg];constructor
  .intro h x hx;obtain⟨i,hi,rfl⟩:=B7 hx;have:=h i (Bq.mpr hi)
   rwa [j0r s hi] at this
  .intro h i hi;rw[j0r s (Bq.mp hi)];exact h _ (Ag _)
 rw[hA] at L;rw[j2r];unfold p64;simp only[L,zOb];unfold t02;cases s.data.toList.all (fun b=>decide (97<=b.toNat)&&decide (b.toNat<=122))
 .rfl
 .simp only[Ad,q7w,zOb,Bz];unfold inB;congr 1;have e1:decide ((1:Int)<=(s.size:Int))=decide (1<=s.size):=by simp;omega
  have e2:decide ((s.size:Int)<=3)=decide (s.size<=3):=by simp;omega
  rw[e1,e2]
theorem s3b (s:Hs) (hs:s.size<=u0i):u9g s=some (t02 s):=by
 have hb:u0i=1099511627776:=rfl
 have L:=s0l s6j s.size (fun i=>(s,i)) (fun i=>(fun b:UInt8=>decide (97<=b.toNat)&&decide (b.toNat<=122)) (s.data.toList.getD i 0)) (.inl s) (.inr false)
  (by rw[p03];simp only[s6a,u0b,Am,Ah,Aa])
  (fun i hi=>by
   rw[p03];simp only[s6a,u0b,hi,Ae,Ad,y8h hi,zTn,y7x (show i<4611686018427387904 by omega)];rw[j9y];simp only[zOb];cases (decide (97<=(s.data.toList.getD i 0).toNat)&&decide ((s.data.toList.getD i 0).toNat<=122))<;>rfl)
 have hA:((List.range s.size).all fun i=>(fun b:UInt8=>decide (97<=b.toNat)&&decide (b.toNat<=122)) (s.data.toList.getD i 0))=s.data.toList.all (fun b=>decide (97<=b.toNat)&&decide (b.toNat<=122)):=by
  rw[Cd,Bg,Bg];constructor
  .intro h x hx;obtain⟨i,hi,rfl⟩:=B7 hx;have:=h i (Bq.mpr hi)
   rwa [j0r s hi] at this
  .intro h i hi;rw[j0r s (Bq.mp hi)];exact h _ (Ag _)
 rw[hA] at L;rw[j29];unfold p7h;simp only[L,zOb];unfold t02;cases s.data.toList.all (fun b=>decide (97<=b.toNat)&&decide (b.toNat<=122))
 .rfl
 .simp only[Ad,r6y,zOb,Bz];unfold inB;congr 1;have e1:decide ((1:Int)<=(s.size:Int))=decide (1<=s.size):=by simp;omega
  have e2:decide ((s.size:Int)<=3)=decide (s.size<=3):=by simp;omega
  rw[e1,e2]
theorem q34 (r:s5b) (h1:r.1.size<=u0i) (h2:r.2.size<=u0i):s0x r=some (u3a r):=by
 rw[o5i];unfold q8q u3a;simp only[s3a _ h1,s3a _ h2,zOb];cases t02 r.1<;>cases t02 r.2<;>rfl
theorem q35 (r:s5b) (h1:r.1.size<=u0i) (h2:r.2.size<=u0i):s01 r=some (u3a r):=by
 rw[o57];unfold q9d u3a;simp only[s3b _ h1,s3b _ h2,zOb];cases t02 r.1<;>cases t02 r.2<;>rfl
theorem t9u (s:Hs):z7q s (⟨#[]⟩:Hs)=decide (s.size=0):=by
 rw[Cd,y7r,Ar];constructor
 .intro h;subst h;rfl
 .intro h;exact Gf (Fi h)
theorem c4n (s:Hs):decide ((s.size:Int)<=12)=decide (s.size<=12):=by simp;omega
theorem q4c (w:WrT) (h1:w.1.size<=u0i):s0y w=some (u4c w):=by
 rw[o5r];unfold q8z u4c;simp only[s3a _ h1,zOb,t9u,c4n];cases t02 w.1<;>cases decide (w.2.1.size<=12)<;>cases w.2.2<;>rfl
theorem q4d (w:WrT) (h1:w.1.size<=u0i):s02 w=some (u4c w):=by
 rw[o6g];unfold q9m u4c;simp only[s3b _ h1,zOb,t9u,c4n];cases t02 w.1<;>cases decide (w.2.1.size<=12)<;>cases w.2.2<;>rfl
theorem o8m {l:Hu WrT} {w:WrT} (h:w∈l):w.1.size<=(Ty.sl u2m).wt l/\w.2.1.size<=(Ty.sl u2m).wt l:=by
 have h1:(Ty.sl u2m).wt l=l.length+(l.map u2m.wt).sum:=rfl;have h2:=o8n (f:=u2m.wt) h;have h3:u2m.wt w=w.1.size+(w.2.1.size+0):=rfl;omega
theorem o75 {l:Hu s5b} {w:s5b} (h:w∈l):w.1.size<=(Ty.sl t3e).wt l/\w.2.size<=(Ty.sl t3e).wt l:=by
 have h1:(Ty.sl t3e).wt l=l.length+(l.map t3e.wt).sum:=rfl;have h2:=o8n (f:=t3e.wt) h;have h3:t3e.wt w=w.1.size+w.2.size:=rfl;omega
theorem s5k {t:Ty} (l:Hu t.den):l.length<=(Ty.sl t).wt l:=by
 have h1:(Ty.sl t).wt l=l.length+(l.map t.wt).sum:=rfl;omega
theorem le8 (n:Nat):decide ((n:Int)<=8)=decide (n<=8):=by simp;omega
theorem gt8 (n:Nat):decide ((n:Int) >8)= !decide (n<=8):=by by_cases h:n<=8<;>simp[h] <;>omega
theorem o87 (l:Hu WrT) (hl:(Ty.sl u2m).wt l<=u0i):r1b l=some (u59 l):=by
 have hb:u0i=1099511627776:=rfl;have hn:=s5k (t:=u2m) l
 have L:=s0l t9k l.length (fun i=>(l,l,(l.length:Int),i)) (fun i=>u4c (rdL u2m l i)&&(decide (i=0) || (fun a b:WrT=>y3i a.1 b.1) (rdL u2m l (i - 1)) (rdL u2m l i))) (.inl l) (.inr false)
  (by rw[r8c];simp only[t8t,u0b,Am,Ah,Aa])
  (fun i hi=>by
   have hm:rdL u2m l i∈l:=by rw[y9a hi];exact Ag hi
   rw[r8c];simp only[t8t,u0b,hi,Ae,Ad,y8h hi,zTn,y7x (show i<4611686018427387904 by omega),q4c _ (A9 (o8m hm).1 hl),zOb,s6r];by_cases h0:i=0
   .subst h0;simp only[Ae,Ap,Aa,Dx,Cz];cases u4c (rdL u2m l 0)<;>rfl
   .simp only[h0,Ah,Bh,Ad,Ci,s09 (show i<4611686018427387904 by omega) h0,y8h (show i - 1<l.length by omega),zTn];cases u4c (rdL u2m l i)
    .rfl
    .simp only[Ap,Aa,zOb,Bz];cases y3i (rdL u2m l (i - 1)).1 (rdL u2m l i).1<;>rfl)
 rw[r41 (t:=u2m) l u4c (fun a b=>y3i a.1 b.1)] at L;rw[o2d];unfold q4x;simp only[L,zOb];unfold u59;cases l.all u4c
 .rfl
 .cases o45 u2m (fun a b=>y3i a.1 b.1) l
  .rfl
  .simp only[Bz,Ad];rw[le8]
theorem p2e (l:Hu WrT) (hl:(Ty.sl u2m).wt l<=u0i):s41 l=some (u59 l):=by
 have hb:u0i=1099511627776:=rfl;have hn:=s5k (t:=u2m) l
 have L:=s0l t9t l.length (fun i=>(l,i)) (fun i=>u4c (rdL u2m l i)&&(decide (i=0) || (fun a b:WrT=>y3i a.1 b.1) (rdL u2m l (i - 1)) (rdL u2m l i))) (.inl l) (.inr false)
  (by rw[r8u];simp only[t9b,u0b,Am,Ah,Aa])
  (fun i hi=>by
   have hm:rdL u2m l i∈l:=by rw[y9a hi];exact Ag hi
   rw[r8u];simp only[t9b,u0b,hi,Ae,Ad,y8h hi,zTn,y7x (show i<4611686018427387904 by omega),q4d _ (A9 (o8m hm).1 hl),zOb,s6r];by_cases h0:i=0
   .subst h0;simp only[Ae,Ap,Aa,Dx,Cz];cases u4c (rdL u2m l 0)<;>rfl
   .simp only[h0,Ah,Bh,Ad,Ci,s09 (show i<4611686018427387904 by omega) h0,y8h (show i - 1<l.length by omega),zTn];cases u4c (rdL u2m l i)
    .rfl
    .simp only[Ap,Aa,zOb,Bz];cases y3i (rdL u2m l (i - 1)).1 (rdL u2m l i).1<;>rfl)
 rw[r41 (t:=u2m) l u4c (fun a b=>y3i a.1 b.1)] at L;rw[o26];unfold q5p;simp only[L,zOb];unfold u59;cases l.all u4c
 .rfl
 .cases o45 u2m (fun a b=>y3i a.1 b.1) l
  .rfl
  .simp only[Bz,Ad];rw[le8]
theorem j4o (t:u0e):u01.wt t=0+(0+(0+(0+((Ty.sl t3e).wt t.2.2.2.2.1+((Ty.sl u2m).wt t.2.2.2.2.2.1+(0+t.2.2.2.2.2.2.2.size)))))):=rfl
theorem t9e (t:u0e) (ht:u01.wt t<=u0i):u6m t=some (u92 t):=by
 have hb:u0i=1099511627776:=rfl;have hw:=j4o t;have hn:=s5k (t:=t3e) t.2.2.2.2.1
 have L:=s0l s6i t.2.2.2.2.1.length (fun i=>(t,t.2.2.2.2.1,(t.2.2.2.2.1.length:Int),i)) (fun i=>u3a (rdL t3e t.2.2.2.2.1 i)) (.inl t) (.inr false)
  (by rw[p02];simp only[s59,u0b,Am,Ah,Aa])
  (fun i hi=>by
   have hm:rdL t3e t.2.2.2.2.1 i∈t.2.2.2.2.1:=by rw[y9a hi];exact Ag hi
   have hz:=o75 hm;rw[p02];simp only[s59,u0b,hi,Ae,Ad,y8h hi,zTn,y7x (show i<4611686018427387904 by omega),q34 (rdL t3e t.2.2.2.2.1 i) (A9 hz.1 (by omega)) (A9 hz.2 (by omega)),zOb];cases u3a (rdL t3e t.2.2.2.2.1 i)<;>rfl)
 rw[r0i (t:=t3e) t.2.2.2.2.1 u3a] at L;rw[j2x];unfold p7a;have k1:=o87 t.2.2.2.2.2.1 (by omega);have k2:=s3a t.2.2.2.2.2.2.2 (by omega);simp only[L,zOb];unfold u92;cases t.2.2.2.2.1.all u3a
 .simp only[Aa,Fx,Fy]
 .simp only[Ad,q7w,k1,k2,zOb,t9u,gt8,Bz];cases h3:inB t.2.2.1 0 9999
  .cases inB t.1 1 9999<;>cases inB t.2.1 1 3<;>simp
  .have h3' :=p6g.mp h3;rw[y5f (n:=t.2.2.1+1) (by omega) (by omega)];cases inB t.1 1 9999<;>cases inB t.2.1 1 3<;>cases decide (t.2.2.2.2.1.length<=8)<;>cases u59 t.2.2.2.2.2.1<;>simp
   generalize inB t.2.2.2.1 (t.2.2.1+1) 9999=b1;generalize t02 t.2.2.2.2.2.2.2=b2;by_cases e3:t.2.1=3
   .cases t.2.2.2.2.2.2.1<;>cases b1<;>simp[e3]
   .by_cases e2:t.2.1=2
    .cases t.2.2.2.2.2.2.1<;>cases b2<;>by_cases e5:t.2.2.2.1=0<;>simp[e2,e5]
    .by_cases e1:t.2.1=1<;>cases t.2.2.2.2.2.2.1<;>by_cases e5:t.2.2.2.1=0<;>simp[e1,e2,e3,e5]
theorem s3f (t:u0e) (ht:u01.wt t<=u0i):u9i t=some (u92 t):=by
 have hb:u0i=1099511627776:=rfl;have hw:=j4o t;have hn:=s5k (t:=t3e) t.2.2.2.2.1
 have L:=s0l s6m t.2.2.2.2.1.length (fun i=>(t,i)) (fun i=>u3a (rdL t3e t.2.2.2.2.1 i)) (.inl t) (.inr false)
  (by rw[p07];simp only[s6e,u0b,Am,Ah,Aa])
  (fun i hi=>by
   have hm:rdL t3e t.2.2.2.2.1 i∈t.2.2.2.2.1:=by rw[y9a hi];exact Ag hi
   have hz:=o75 hm;rw[p07];simp only[s6e,u0b,hi,Ae,Ad,y8h hi,zTn,y7x (show i<4611686018427387904 by omega),q35 (rdL t3e t.2.2.2.2.1 i) (A9 hz.1 (by omega)) (A9 hz.2 (by omega)),zOb];cases u3a (rdL t3e t.2.2.2.2.1 i)<;>rfl)
 rw[r0i (t:=t3e) t.2.2.2.2.1 u3a] at L;rw[j3e];unfold p7m;have k1:=p2e t.2.2.2.2.2.1 (by omega);have k2:=s3b t.2.2.2.2.2.2.2 (by omega);simp only[L,r6y,k1,k2,zOb,t9u,gt8];unfold u92;cases t.2.2.2.2.1.all u3a
 .cases inB t.1 1 9999<;>cases inB t.2.1 1 3<;>cases inB t.2.2.1 0 9999<;>cases decide (t.2.2.2.2.1.length<=8)<;>cases u59 t.2.2.2.2.2.1<;>simp
 .simp only[Ad,Bz,r6y,k2,zOb,t9u];cases h3:inB t.2.2.1 0 9999
  .cases inB t.1 1 9999<;>cases inB t.2.1 1 3<;>simp
  .have h3' :=p6g.mp h3;rw[y5f (n:=t.2.2.1+1) (by omega) (by omega)];cases inB t.1 1 9999<;>cases inB t.2.1 1 3<;>cases decide (t.2.2.2.2.1.length<=8)<;>cases u59 t.2.2.2.2.2.1<;>try rfl
   generalize decide (t.2.2.2.2.2.2.2.size=0)=b4;generalize inB t.2.2.2.1 (t.2.2.1+1) 9999=b1;generalize t02 t.2.2.2.2.2.2.2=b2;by_cases e3:t.2.1=3
   .cases t.2.2.2.2.2.2.1<;>cases b1<;>cases b4<;>simp[e3]
   .by_cases e2:t.2.1=2
    .cases t.2.2.2.2.2.2.1<;>cases b2<;>by_cases e5:t.2.2.2.1=0<;>simp[e2,e5]
    .by_cases e1:t.2.1=1<;>cases t.2.2.2.2.2.2.1<;>cases b4<;>by_cases e5:t.2.2.2.1=0<;>simp[e1,e2,e3,e5]
theorem d29 (l:Hu Int):(y7s l).size=l.length:=by
 simp[y7s,ByteArray.size]
theorem d4q (n:Nat) (b:Int) (hn:n<=1000000):∃t,t5w ((n:Int),b)=some t/\t.size=n:=by
 have key:∀(r i:Nat) (a:Hu Int),a.length=n->i+r=n-> ∃a' :Hu Int,u4d ((n:Int),b,a,(i:Int))=some (.inl a')/\a'.length=n:=by
  intro r
  induction r with
  | zero=>
   intro i a ha hi;have:i=n:=by omega
   subst this;rw[t0m];simp only[u98,u0b,Am,Ah,Aa];exact⟨a,rfl,ha⟩
  | succ r ih=>
   intro i a ha hi;have hlt:i<n:=by omega
   rw[t0m];simp only[u98,u0b,hlt,Ae,Ad,y8h (show i<a.length by omega)];rw[y7x (by omega)];exact ih (i+1) _ (by simp[ha]) (by omega)
 obtain⟨a',e1,h1⟩:=key n 0 (List.replicate n (Ty.int .u8).zero) (by simp) (by omega);have e1:u4d ((n:Int),b,List.replicate n (Ty.int .u8).zero,0)=_:=e1;have hc:(decide (0<=(n:Int))&&decide ((n:Int)<=1099511627776))=true:=by simp;omega
 rw[r47];unfold s6o;rw[hc,Ad];simp only[zTn,e1,zOb];exact⟨_,rfl,by rw[d29];exact h1⟩
def c5h (w:u2m.den):Prop:=w.1.size<=4/\w.2.1.size<=13
def c5g (n:Nat) (t:u01.den):Prop:=t.2.2.2.2.1.length<=n/\(∀r∈t.2.2.2.2.1,r.1.size<=2/\r.2.size<=2)/\t.2.2.2.2.2.1.length<=n/\(∀r∈t.2.2.2.2.2.1,c5h r)/\t.2.2.2.2.2.2.2.size<=16
theorem j7q {l:Hu u4n} {w:u4n} (h:w∈l):w.1.size<=(Ty.sl u0g).wt l/\w.2.1.size<=(Ty.sl u0g).wt l:=by
 have h1:(Ty.sl u0g).wt l=l.length+(l.map u0g.wt).sum:=rfl;have h2:=o8n (f:=u0g.wt) h;have h3:u0g.wt w=w.1.size+(w.2.1.size+(0+0)):=rfl;omega
theorem d9t (n:Nat):decide ((n:Int) >12)= !decide (n<=12):=by by_cases h:n<=12<;>simp[h] <;>omega
theorem d7z (n:Nat):decide ((n:Int)<=120)=decide (n<=120):=by simp;omega
theorem p7y (a b:Int):decide (a>=b)= !decide (a<b):=by
 by_cases h:a<b
 .have: ¬a>=b:=by omega
  simp[h,this]
 .have:a>=b:=by omega
  simp[h,this]
theorem p7z (a b:Int):decide (a >b)= !decide (a<=b):=by
 by_cases h:a<=b
 .have: ¬a >b:=by omega
  simp[h,this]
 .have:a >b:=by omega
  simp[h,this]
theorem d40 (a b:u4n):∃r,u7s (a,b)=some r/\decide (r>=0)= !r38 a b:=by
 rw[s7d];unfold t7s r38;simp only[o69,zOb];rcases p6j a.1 b.1 with h | h | h
 .exact⟨-1,by simp[h],by simp[h]⟩
 .simp only[h,s8n,y6w,Br,Bk,Bl,Ae,Ap,Aa,j86,zOb,Ci,Bz];refine⟨_,rfl,?_⟩;by_cases h3:a.2.2.2<b.2.2.2
  .simp[h3]
  .by_cases h4:a.2.2.2 >b.2.2.2<;>simp[h3,h4]
 .have e1:=p4n h;have e2:z7q a.1 b.1=false:=o4h.mpr (fun e=>by rw[e,s8n] at h;cases h);exact⟨1,by simp[e1,e2],by simp[e1,e2]⟩
theorem o00 (l:Hu u4n) (hl:(Ty.sl u0g).wt l<=u0i):s5t l=some (u7h l):=by
 have hb:u0i=1099511627776:=rfl;have hn:=s5k (t:=u0g) l
 have L:=s0l t3w l.length (fun i=>(l,l,(l.length:Int),i)) (fun i=>q64 (rdL u0g l i)&&(decide (i=0) || r38 (rdL u0g l (i - 1)) (rdL u0g l i))) (.inl l) (.inr false)
  (by rw[r1y];simp only[t3m,u0b,Am,Ah,Aa])
  (fun i hi=>by
   have hm:rdL u0g l i∈l:=by rw[y9a hi];exact Ag hi
   rw[r1y];simp only[t3m,u0b,hi,Ae,Ad,y8h hi,zTn,y7x (show i<4611686018427387904 by omega),s3a _ (A9 (j7q hm).1 hl),q7w,zOb,s6r,t9u,d9t];unfold q64;generalize t02 (rdL u0g l i).1=b1;generalize decide ((rdL u0g l i).2.1.size<=12)=b2;generalize decide ((rdL u0g l i).2.1.size=0)=b3;generalize (rdL u0g l i).2.2.1=b4;generalize inB (rdL u0g l i).2.2.2 1 9999=b5;by_cases h0:i=0
   .subst h0;simp only[Ae,Ap,Aa,Dx,Cz];cases b1<;>cases b2<;>cases b3<;>cases b4<;>cases b5<;>rfl
   .obtain⟨r,hr,hr2⟩:=d40 (rdL u0g l (i - 1)) (rdL u0g l i);simp only[h0,Ah,Bh,Ad,Ci,s09 (show i<4611686018427387904 by omega) h0,y8h (show i - 1<l.length by omega),zTn,hr,hr2,zOb];cases r38 (rdL u0g l (i - 1)) (rdL u0g l i)<;>cases b1<;>cases b2<;>cases b3<;>cases b4<;>cases b5<;>rfl)
 rw[r41 (t:=u0g) l q64 r38] at L;rw[p5x];unfold r6a;simp only[L,zOb];unfold u7h;cases l.all q64
 .rfl
 .cases o45 u0g r38 l
  .rfl
  .simp only[Bz,Ad];rw[d7z]
theorem o01 (l:Hu u4n) (hl:(Ty.sl u0g).wt l<=u0i):s5z l=some (u7h l):=by
 have hb:u0i=1099511627776:=rfl;have hn:=s5k (t:=u0g) l
 have L:=s0l t32 l.length (fun i=>(l,i)) (fun i=>q64 (rdL u0g l i)&&(decide (i=0) || r38 (rdL u0g l (i - 1)) (rdL u0g l i))) (.inl l) (.inr false)
  (by rw[r2d];simp only[t3s,u0b,Am,Ah,Aa])
  (fun i hi=>by
   have hm:rdL u0g l i∈l:=by rw[y9a hi];exact Ag hi
   rw[r2d];simp only[t3s,u0b,hi,Ae,Ad,y8h hi,zTn,y7x (show i<4611686018427387904 by omega),s3b _ (A9 (j7q hm).1 hl),r6y,zOb,s6r,t9u,d9t];unfold q64 r38;generalize t02 (rdL u0g l i).1=b1;generalize decide ((rdL u0g l i).2.1.size<=12)=b2;generalize decide ((rdL u0g l i).2.1.size=0)=b3;generalize (rdL u0g l i).2.2.1=b4;generalize inB (rdL u0g l i).2.2.2 1 9999=b5;by_cases h0:i=0
   .subst h0;simp only[Ae,Ap,Aa,Dx,Cz];cases b1<;>cases b2<;>cases b3<;>cases b4<;>cases b5<;>rfl
   .simp only[h0,Ah,Bh,Ad,Ci,s09 (show i<4611686018427387904 by omega) h0,y8h (show i - 1<l.length by omega),zTn,zOb];rcases p6j (rdL u0g l (i - 1)).1 (rdL u0g l i).1 with h | h | h
    .have e2:z7q (rdL u0g l (i - 1)).1 (rdL u0g l i).1=false:=o4h.mpr (fun e=>by rw[e,s8n] at h;cases h);rw[h,e2];cases b1<;>cases b2<;>cases b3<;>cases b4<;>cases b5<;>rfl
    .rw[h,s8n,y6w];rw[p7y];cases decide ((rdL u0g l (i - 1)).2.2.2<(rdL u0g l i).2.2.2)<;>cases b1<;>cases b2<;>cases b3<;>cases b4<;>cases b5<;>rfl
    .have e1:=p4n h;have e2:z7q (rdL u0g l (i - 1)).1 (rdL u0g l i).1=false:=o4h.mpr (fun e=>by rw[e,s8n] at h;cases h);rw[e1,e2];cases b1<;>cases b2<;>cases b3<;>cases b4<;>cases b5<;>rfl)
 rw[r41 (t:=u0g) l q64 r38] at L;rw[p6a];unfold r6n;simp only[L,zOb];unfold u7h;cases l.all q64
 .rfl
 .cases o45 u0g r38 l
  .rfl
  .simp only[Bz,Ad];rw[d7z]
theorem d1u (n:Nat) (hn:n<=1099511627776):t57 ((),(n:Int))=some [] :=by
 rw[q3x];unfold s5g;have e0:i64.wrap ((0:Int) - (0:Int))=0:=by rw[y5f (by omega) (by omega)];rfl
 have e1:i64.wrap ((n:Int) - 0)=(n:Int):=by rw[y5f (by omega) (by omega)];omega
 have e2:decide ((n:Int)<0)=false:=A7 (by omega);simp only[e0,e1,e2,Aa];by_cases h:n=0
 .subst h;simp
 .have e3:decide ((n:Int) >0)=true:=by simp;omega
  have e4:(decide ((1:Int)<=(n:Int))&&decide ((n:Int)<=1099511627776))=true:=by simp;omega
  simp only[e3,e4,Ad];simp
theorem p5c (ls:Hu (Hu u0e)) (h:ls.flatten.length<=1099511627776) (hn:ls.length<=1099511627776):u22 ls=some ls.flatten:=by
 have fl:∀(i:Nat),i<=ls.length->(ls.take i).flatten.length<=ls.flatten.length:=fun i _=>by
  have:=En i ls;have h2:ls.flatten=(ls.take i).flatten++(ls.drop i).flatten:=by rw[←Ga,this]
  rw[h2,Ba];omega
 have st:∀(i:Nat) (hi:i<ls.length),(ls.take (i+1)).flatten=(ls.take i).flatten++ls[i] :=fun i hi=>by
  rw[Gm,A4 hi,Ga];simp
 have L1:=q4a u3h ls.length (fun(n:Nat) i=>(ls,(n:Int),ls,(ls.length:Int),i)) (fun _ _=> .inl (ls,(ls.flatten.length:Int))) (fun i n=>n=(ls.take i).flatten.length)
  (fun n hP=>by
   rw[Cq] at hP;subst hP;rw[s0b];simp only[u6w,u0b,Am,Ah,Aa])
  (fun i n hi hP=> .inr ⟨(ls.take (i+1)).flatten.length,rfl,rfl,by
   have h1:=fl (i+1) (by omega);have h2:(ls.take (i+1)).flatten.length=n+ls[i].length:=by rw[st i hi,Ba,hP]
   have e1:i64.wrap ((n:Int)+((ls[i].length:Nat):Int))=((n+ls[i].length:Nat):Int):=by rw[y5f (by omega) (by omega)];omega
   have e2:decide (((n+ls[i].length:Nat):Int)<0)=false:=by simp;omega
   rw[s0b];simp only[u6w,u0b,hi,Ae,Ad,y8h hi,zTn,y9a (t:=Ty.sl u01) hi,y7x (show i<4611686018427387904 by omega),h2];rw[e1,e2];rfl⟩) 0 0 (by omega) rfl
 have L2:=q4a u25 ls.length (fun(a:Hu u0e) i=>(a,ls,(ls.length:Int),i)) (fun _ _=> .inl ls.flatten) (fun i a=>a=(ls.take i).flatten)
  (fun a hP=>by
   rw[Cq] at hP;subst hP;rw[t8h];simp only[u5o,u0b,Am,Ah,Aa])
  (fun i a hi hP=> .inr ⟨(ls.take (i+1)).flatten,rfl,rfl,by
   have h1:=fl (i+1) (by omega);have h2:(ls.take (i+1)).flatten.length=a.length+ls[i].length:=by rw[st i hi,Ba,hP]
   rw[t8h];simp only[u5o,u0b,hi,Ae,Ad,y8h hi,zTn,y9a (t:=Ty.sl u01) hi,y7x (show i<4611686018427387904 by omega)];rw[u0w (show a.length+ls[i].length<=1099511627776 by omega),st i hi,hP];rfl⟩) 0 [] (by omega) rfl
 rw[r6x];unfold s3h;have L1' :u3h (ls,(0:Int),ls,(ls.length:Int),0)=some (.inl (ls,(ls.flatten.length:Int))):=L1;have L2' :u25 ([],ls,(ls.length:Int),0)=some (.inl ls.flatten):=L2;simp only[L1',zOb,d1u _ h,L2']
theorem d0a (l:Hu u0e) (n:Int):((List.range l.length).all fun i=>decide ((rdL u01 l i).1<n)&& !((l.take i).any fun y=>decide (y.1=(rdL u01 l i).1)))=p1n (u65 l) n:=by
 rw[Cd,Bg,q53];unfold u65;constructor
 .intro h;constructor
  .intro x hx;obtain⟨t,ht,rfl⟩:=Bx.mp hx;obtain⟨i,hi,rfl⟩:=B7 ht;have:=h i (Bq.mpr hi);rw[Ai,Ar,y9a hi] at this;exact this.1
  .rw[D8,Dl,Cp];intro i j hi hj hij e;have:=h j (Bq.mpr hj);rw[Ai,Bj,y9a hj] at this;have hm:l[i] ∈l.take j:=by
    rw[Gy];exact⟨i,by simp;omega,by simp⟩
   have:=Ct.mp this.2 _ hm;simp only[Ar] at this;exact this e
 .rintro⟨h1,h2⟩ i hi
  have hi:=Bq.mp hi;rw[Ai,Ar,y9a hi,Bj];refine⟨h1 _ (Bx.mpr ⟨_,Ag hi,rfl⟩),?_⟩;rw[Ct];intro y hy;rw[Gy] at hy;obtain⟨j,hj,rfl⟩:=hy;simp only[Ec] at hj;rw[D8,Dl,Cp] at h2;simp only[Fc,Ar];exact h2 j i (by omega) hi (by omega)
theorem p0f (l:Hu u0e) (n:Int) (hl:l.length<=1099511627776):t5n (l,n)=some (p1n (u65 l) n):=by
 have hsome:∀(m:Hu u0e) (t:u0e),m.length<=1099511627776->u83 (m,t)=some (m.any fun y=>decide (y.1=t.1)):=by
  intro m t hm;have L:=Q.first (T:=u01) (c:=u0e) (W:=u1e) (q:=s4t) (p:=fun y:u0e=>decide (y.1=t.1)) (fun x=>t1q x) m t (by omega) (fun x _=>by rw[p3x];rfl);simp only[s9i,t6y,t1b,u33,t24,u5d,L,zOb];rw[←u9t];by_cases h:u0o (fun y:u0e=>decide (y.1=t.1)) m<m.length
  .simp[h]
  .simp[h]
 have L:=s0l t6t l.length (fun i=>(l,n,l,(l.length:Int),i)) (fun i=>decide ((rdL u01 l i).1<n)&& !((l.take i).any fun y=>decide (y.1=(rdL u01 l i).1))) (.inl ()) (.inr false)
  (by rw[r4f];simp only[t6f,u0b,Am,Ah,Aa])
  (fun i hi=>by
   have e1:(decide ((0:Int)<=0)&&decide ((0:Int)<=(i:Int))&&decide ((i:Int)<=(l.length:Int)))=true:=by simp;omega
   have e2:(l.take i).drop ((0:Int)).toNat=l.take i:=by simp
   have e3:=hsome (l.take i) (rdL u01 l i) (by simp;omega);rw[r4f];simp only[t6f,u0b,hi,Ae,Ad,y8h hi,zTn,y7x (show i<4611686018427387904 by omega),p7y (rdL u01 l i).1 n,e1];rw[e2,e3];cases decide ((rdL u01 l i).1<n)
   .rfl
   .simp only[Ap,Aa,zOb,Bz];cases (l.take i).any fun y=>decide (y.1=(rdL u01 l i).1)<;>rfl)
 rw[d0a] at L;rw[p9c];unfold q0u;simp only[L,zOb];cases p1n (u65 l) n<;>rfl
theorem q5y (b:u0m):d7h.wt b=(Ty.sl u0g).wt b.1+((Ty.sl u01).wt b.2.1+((Ty.sl u01).wt b.2.2.1+(0+0))):=rfl
theorem p16 {l:Hu u0e} {t:u0e} (h:t∈l):u01.wt t<=(Ty.sl u01).wt l:=by
 have h1:(Ty.sl u01).wt l=l.length+(l.map u01.wt).sum:=rfl;have h2:=o8n (f:=u01.wt) h;omega
theorem gt3 (n:Nat):decide ((n:Int) >3)= !decide (n<=3):=by by_cases h:n<=3<;>simp[h] <;>omega
theorem gt4 (n:Nat):decide ((n:Int) >4)= !decide (n<=4):=by by_cases h:n<=4<;>simp[h] <;>omega
theorem u9b (t:u0e):u36 t=some (decide (t.2.1=2)):=by rw[o5t];rfl
theorem t3i (b:u0m) (hw:d7h.wt b<=u0i):u3f b=some (t0z b):=by
 have hb:u0i=1099511627776:=rfl;have hbw:=q5y b;have n1:=s5k (t:=u0g) b.1;have n2:=s5k (t:=u01) b.2.1;have n3:=s5k (t:=u01) b.2.2.1
 have L1:=s0l t7k b.1.length (fun i=>(b,b.1,(b.1.length:Int),i)) (fun i=>(fun v:u4n=>decide (v.2.2.2<=b.2.2.2.1)) (rdL u0g b.1 i)) (.inl b) (.inr false)
  (by rw[q65];simp only[s3r,u0b,Am,Ah,Aa])
  (fun i hi=>by
   rw[q65];simp only[s3r,u0b,hi,Ae,Ad,y8h hi,zTn,y7x (show i<4611686018427387904 by omega),p7z (rdL u0g b.1 i).2.2.2 b.2.2.2.1];cases decide ((rdL u0g b.1 i).2.2.2<=b.2.2.2.1)<;>rfl)
 rw[r0i (t:=u0g) b.1 (fun v:u4n=>decide (v.2.2.2<=b.2.2.2.1))] at L1
 have L2:=s0l t4m b.2.1.length (fun i=>(b,b.2.1,(b.2.1.length:Int),i)) (fun i=>(fun t:u0e=>u92 t&&(decide (t.2.1=3)&&decide (t.2.2.2.1<=b.2.2.2.1))) (rdL u01 b.2.1 i)&&(decide (i=0) || (fun x y:u0e=>decide (x.2.2.2.1<y.2.2.2.1)) (rdL u01 b.2.1 (i - 1)) (rdL u01 b.2.1 i))) (.inl b) (.inr false)
  (by rw[q2r];simp only[s1a,u0b,Am,Ah,Aa])
  (fun i hi=>by
   have hm:rdL u01 b.2.1 i∈b.2.1:=by rw[y9a hi];exact Ag hi
   have ht:=p16 hm;have hk:=t9e (rdL u01 b.2.1 i) (by omega);rw[q2r];simp only[s1a,u0b,hi,Ae,Ad,y8h hi,zTn,y7x (show i<4611686018427387904 by omega),p7z (rdL u01 b.2.1 i).2.2.2.1 b.2.2.2.1,s6r,o3n,zOb];rw[hk];simp only[zOb];generalize u92 (rdL u01 b.2.1 i)=b1;generalize decide ((rdL u01 b.2.1 i).2.1=3)=b2;generalize decide ((rdL u01 b.2.1 i).2.2.2.1<=b.2.2.2.1)=b3;by_cases h0:i=0
   .subst h0;simp only[Ae,Ap,Aa,Dx,Cz];cases b1<;>cases b2<;>cases b3<;>rfl
   .simp only[h0,Ah,Bh,Ad,Ci,s09 (show i<4611686018427387904 by omega) h0,y8h (show i - 1<b.2.1.length by omega),zTn,p7y (rdL u01 b.2.1 (i - 1)).2.2.2.1 (rdL u01 b.2.1 i).2.2.2.1];generalize decide ((rdL u01 b.2.1 (i - 1)).2.2.2.1<(rdL u01 b.2.1 i).2.2.2.1)=b4;cases b1<;>cases b2<;>cases b3<;>cases b4<;>rfl)
 rw[r41 (t:=u01) b.2.1 (fun t:u0e=>u92 t&&(decide (t.2.1=3)&&decide (t.2.2.2.1<=b.2.2.2.1))) (fun x y:u0e=>decide (x.2.2.2.1<y.2.2.2.1))] at L2
 have L3:=s0l t4n b.2.2.1.length (fun i=>(b,b.2.2.1,(b.2.2.1.length:Int),i)) (fun i=>(fun t:u0e=>u92 t&&(decide (t.2.1=2)&&decide (t.2.2.1<=b.2.2.2.1))) (rdL u01 b.2.2.1 i)&&(decide (i=0) || (fun x y:u0e=>y3i x.2.2.2.2.2.2.2 y.2.2.2.2.2.2.2) (rdL u01 b.2.2.1 (i - 1)) (rdL u01 b.2.2.1 i))) (.inl b) (.inr false)
  (by rw[q2s];simp only[s1b,u0b,Am,Ah,Aa])
  (fun i hi=>by
   have hm:rdL u01 b.2.2.1 i∈b.2.2.1:=by rw[y9a hi];exact Ag hi
   have ht:=p16 hm;have hk:=t9e (rdL u01 b.2.2.1 i) (by omega);rw[q2s];simp only[s1b,u0b,hi,Ae,Ad,y8h hi,zTn,y7x (show i<4611686018427387904 by omega),p7z (rdL u01 b.2.2.1 i).2.2.1 b.2.2.2.1,s6r,u9b,zOb];rw[hk];simp only[zOb];generalize u92 (rdL u01 b.2.2.1 i)=b1;generalize decide ((rdL u01 b.2.2.1 i).2.1=2)=b2;generalize decide ((rdL u01 b.2.2.1 i).2.2.1<=b.2.2.2.1)=b3;by_cases h0:i=0
   .subst h0;simp only[Ae,Ap,Aa,Dx,Cz];cases b1<;>cases b2<;>cases b3<;>rfl
   .simp only[h0,Ah,Bh,Ad,Ci,s09 (show i<4611686018427387904 by omega) h0,y8h (show i - 1<b.2.2.1.length by omega),zTn];generalize y3i (rdL u01 b.2.2.1 (i - 1)).2.2.2.2.2.2.2 (rdL u01 b.2.2.1 i).2.2.2.2.2.2.2=b4;cases b1<;>cases b2<;>cases b3<;>cases b4<;>rfl)
 rw[r41 (t:=u01) b.2.2.1 (fun t:u0e=>u92 t&&(decide (t.2.1=2)&&decide (t.2.2.1<=b.2.2.2.1))) (fun x y:u0e=>y3i x.2.2.2.2.2.2.2 y.2.2.2.2.2.2.2)] at L3;have hC:=p5c [b.2.1,b.2.2.1] (by simp only[List.flatten_cons,List.flatten_nil,Bw,Ba];omega) (by simp);have hf: [b.2.1,b.2.2.1].flatten=b.2.1++b.2.2.1:=by simp
 rw[hf] at hC;have hI:=p0f (b.2.1++b.2.2.1) b.2.2.2.2 (by rw[Ba];omega);have hV:=o00 b.1 (by omega);rw[o9h];unfold p2f;rw[hV];simp only[q7w,d9t,gt3,zOb];unfold t0z j7b j02;generalize u7h b.1=c1;generalize inB b.2.2.2.1 0 9999=c3;generalize inB b.2.2.2.2 1 9999=c4;generalize decide (b.2.1.length<=12)=c5;generalize decide (b.2.2.1.length<=3)=c6;generalize ha1:b.1.all (fun v:u4n=>decide (v.2.2.2<=b.2.2.2.1))=a1 at L1;generalize ha2:b.2.1.all (fun t:u0e=>u92 t&&(decide (t.2.1=3)&&decide (t.2.2.2.1<=b.2.2.2.1)))=a2 at L2;generalize ha3:o45 u01 (fun x y:u0e=>decide (x.2.2.2.1<y.2.2.2.1)) b.2.1=a3 at L2;generalize ha4:b.2.2.1.all (fun t:u0e=>u92 t&&(decide (t.2.1=2)&&decide (t.2.2.1<=b.2.2.2.1)))=a4 at L3;generalize ha5:o45 u01 (fun x y:u0e=>y3i x.2.2.2.2.2.2.2 y.2.2.2.2.2.2.2) b.2.2.1=a5 at L3;generalize p1n (u65 (b.2.1++b.2.2.1)) b.2.2.2.2=a6 at hI;have hR:((t7k (b,b.1,(b.1.length:Int),0)).bind fun r5=>match r5 with
  | .inl o6=>(t4m (o6,o6.2.1,(o6.2.1.length:Int),0)).bind fun r10=>match r10 with
   | .inl o11=>(t4n (o11,o11.2.2.1,(o11.2.2.1.length:Int),0)).bind fun r15=>match r15 with
    | .inl o16=>(u22 [o16.2.1,o16.2.2.1]).bind fun y17=>(t5n (y17,o16.2.2.2.2)).bind fun y18=>some y18
    | .inr z19=>some z19
   | .inr z20=>some z20
  | .inr z21=>some z21)=some (a1&&((a2&&a3)&&((a4&&a5)&&a6))):=by
  rw[L1];cases a1
  .rfl
  .simp only[Ad,zOb,Bz];rw[L2];cases (a2&&a3)
   .rfl
   .simp only[Ad,zOb,Bz];rw[L3];cases (a4&&a5)
    .rfl
    .simp only[Ad,zOb,Bz];rw[hC];simp only[zOb];rw[hI];rfl
 cases c1<;>cases c3<;>cases c4<;>cases c5<;>cases c6<;>simp only[Ap,Bh,Ad,Aa,zOb,Fx,Fy,Bz,Cz]
 exact hR
theorem j8h (l:Hu Int) (n:Int):((List.range l.length).all fun i=>((List.range i).all fun j=> !decide (rdL (Ty.int .i64) l j=rdL (Ty.int .i64) l i))&&decide (rdL (Ty.int .i64) l i<n))=p1n l n:=by
 rw[Cd,Bg,q53];constructor
 .intro h;constructor
  .intro x hx;obtain⟨i,hi,rfl⟩:=B7 hx;have:=h i (Bq.mpr hi);rw[Ai,Ar,y9a (t:=Ty.int .i64) hi] at this;exact this.2
  .rw[D8,Cp];intro i j hi hj hij e;have:=h j (Bq.mpr hj);rw[Ai,Bg] at this;have:=this.1 i (Bq.mpr hij);rw[y9a (t:=Ty.int .i64) hi,y9a (t:=Ty.int .i64) hj,Bj,Bu] at this;exact this e
 .rintro⟨h1,h2⟩ i hi
  have hi:=Bq.mp hi;rw[Ai,Ar,y9a (t:=Ty.int .i64) hi,Bg];refine⟨fun j hj=> ?_,h1 _ (Ag hi)⟩;have hj:=Bq.mp hj;rw[D8,Cp] at h2;rw[y9a (t:=Ty.int .i64) (show j<l.length by omega),Bj,Bu];exact h2 j i (by omega) hi hj
theorem j1k (b:u0m) (l:Hu Int) (hl:l.length<=1099511627776):t0c (b,l,0)=some (bif p1n l b.2.2.2.2 then .inl () else .inr false):=by
 have inner:∀i:Nat,i<l.length->t4v (b,l,(i:Int),0)=some (bif (List.range i).all (fun j=> !decide (rdL (Ty.int .i64) l j=rdL (Ty.int .i64) l i)) then .inl (b,l,(i:Int)) else .inr false):=by
  intro i hi
  exact s0l t4v i (fun j=>(b,l,(i:Int),j)) (fun j=> !decide (rdL (Ty.int .i64) l j=rdL (Ty.int .i64) l i)) (.inl (b,l,(i:Int))) (.inr false)
   (by rw[q28];simp only[s1q,u0b,Am,Ah,Aa])
   (fun j hj=>by
    rw[q28];simp only[s1q,u0b,hj,Ae,Ad,y8h hi,y8h (show j<l.length by omega),zTn,y7x (show j<4611686018427387904 by omega)];by_cases e:rdL (Ty.int .i64) l j=rdL (Ty.int .i64) l i
    .rw[Bb e];rfl
    .rw[A7 e];rfl)
 have L:=s0l t0c l.length (fun i=>(b,l,i)) (fun i=>((List.range i).all fun j=> !decide (rdL (Ty.int .i64) l j=rdL (Ty.int .i64) l i))&&decide (rdL (Ty.int .i64) l i<b.2.2.2.2)) (.inl ()) (.inr false)
  (by rw[q27];simp only[s1p,u0b,Am,Ah,Aa])
  (fun i hi=>by
   rw[q27];simp only[s1p,u0b,hi,Ae,Ad];rw[inner i hi];cases (List.range i).all fun j=> !decide (rdL (Ty.int .i64) l j=rdL (Ty.int .i64) l i)
   .rfl
   .simp only[Ad,zOb,y8h hi,zTn,y7x (show i<4611686018427387904 by omega),Bz];rw[p7y];cases decide (rdL (Ty.int .i64) l i<b.2.2.2.2)<;>rfl)
 rw[j8h] at L;exact L
theorem j62 (l:Hu u0e) {i:Nat} (h:i<l.length):u65 (l.take i)++ [(rdL u01 l i).1] =u65 (l.take (i+1)):=by
 rw[y9a h];unfold u65;rw[Gm,A4 h,Dh];rfl
theorem s5l (b:u0m) (hw:d7h.wt b<=549755813888):t05 b=some (t0z b):=by
 have hb:u0i=1099511627776:=rfl;have hbw:=q5y b;have n1:=s5k (t:=u0g) b.1;have n2:=s5k (t:=u01) b.2.1;have n3:=s5k (t:=u01) b.2.2.1
 have L1:=s0l t7m b.1.length (fun i=>(b,i)) (fun i=>(fun v:u4n=>decide (v.2.2.2<=b.2.2.2.1)) (rdL u0g b.1 i)) (.inl b) (.inr false)
  (by rw[q7a];simp only[s3w,u0b,Am,Ah,Aa])
  (fun i hi=>by
   rw[q7a];simp only[s3w,u0b,hi,Ae,Ad,y8h hi,zTn,y7x (show i<4611686018427387904 by omega),p7z (rdL u0g b.1 i).2.2.2 b.2.2.2.1];cases decide ((rdL u0g b.1 i).2.2.2<=b.2.2.2.1)<;>rfl)
 rw[r0i (t:=u0g) b.1 (fun v:u4n=>decide (v.2.2.2<=b.2.2.2.1))] at L1;have il:∀(l:Hu u0e) (i:Nat),i<=l.length->(u65 (l.take i)).length=i:=fun l i h=>by unfold u65;simp;omega
 have L2:=s0l t0b b.2.1.length (fun i=>(b,u65 (b.2.1.take i.toNat),i)) (fun i=>(fun t:u0e=>u92 t&&(decide (t.2.1=3)&&decide (t.2.2.2.1<=b.2.2.2.1))) (rdL u01 b.2.1 i)&&(decide (i=0) || (fun x y:u0e=>decide (x.2.2.2.1<y.2.2.2.1)) (rdL u01 b.2.1 (i - 1)) (rdL u01 b.2.1 i))) (.inl (b,u65 b.2.1)) (.inr false)
  (by rw[q25];simp only[s1n,u0b,Am,Ah,Aa,zTn,Cq])
  (fun i hi=>by
   have hm:rdL u01 b.2.1 i∈b.2.1:=by rw[y9a hi];exact Ag hi
   have ht:=p16 hm;have hk:=s3f (rdL u01 b.2.1 i) (by omega);rw[q25];simp only[s1n,u0b,hi,Ae,Ad,y8h hi,zTn,y7x (show i<4611686018427387904 by omega),p7z (rdL u01 b.2.1 i).2.2.2.1 b.2.2.2.1,s6r,zOb];rw[hk];have hc:Nat.ble ((u65 (b.2.1.take i)).length+ [(rdL u01 b.2.1 i).1].length) z7z=true:=u0w (by rw[il _ _ (by omega)];simp;omega);simp only[zOb];rw[hc,j62 _ hi];generalize u92 (rdL u01 b.2.1 i)=b1;generalize decide ((rdL u01 b.2.1 i).2.1=3)=b2;generalize decide ((rdL u01 b.2.1 i).2.2.2.1<=b.2.2.2.1)=b3;by_cases h0:i=0
   .subst h0;simp only[Ae,Ap,Aa,Dx,Cz];cases b1<;>cases b2<;>cases b3<;>rfl
   .simp only[h0,Ah,Bh,Ad,Ci,s09 (show i<4611686018427387904 by omega) h0,y8h (show i - 1<b.2.1.length by omega),zTn,p7y (rdL u01 b.2.1 (i - 1)).2.2.2.1 (rdL u01 b.2.1 i).2.2.2.1];generalize decide ((rdL u01 b.2.1 (i - 1)).2.2.2.1<(rdL u01 b.2.1 i).2.2.2.1)=b4;cases b1<;>cases b2<;>cases b3<;>cases b4<;>rfl)
 rw[r41 (t:=u01) b.2.1 (fun t:u0e=>u92 t&&(decide (t.2.1=3)&&decide (t.2.2.2.1<=b.2.2.2.1))) (fun x y:u0e=>decide (x.2.2.2.1<y.2.2.2.1))] at L2
 have L3:=s0l t4u b.2.2.1.length (fun i=>(b,u65 b.2.1++u65 (b.2.2.1.take i.toNat),i)) (fun i=>(fun t:u0e=>u92 t&&(decide (t.2.1=2)&&decide (t.2.2.1<=b.2.2.2.1))) (rdL u01 b.2.2.1 i)&&(decide (i=0) || (fun x y:u0e=>y3i x.2.2.2.2.2.2.2 y.2.2.2.2.2.2.2) (rdL u01 b.2.2.1 (i - 1)) (rdL u01 b.2.2.1 i))) (.inl (b,u65 (b.2.1++b.2.2.1))) (.inr false)
  (by rw[q26];simp only[s1o,u0b,Am,Ah,Aa,zTn,Cq];unfold u65;rw[Dh])
  (fun i hi=>by
   have hm:rdL u01 b.2.2.1 i∈b.2.2.1:=by rw[y9a hi];exact Ag hi
   have ht:=p16 hm;have hk:=s3f (rdL u01 b.2.2.1 i) (by omega);rw[q26];simp only[s1o,u0b,hi,Ae,Ad,y8h hi,zTn,y7x (show i<4611686018427387904 by omega),p7z (rdL u01 b.2.2.1 i).2.2.1 b.2.2.2.1,s6r,zOb];rw[hk];have hz:(u65 b.2.1).length=b.2.1.length:=by unfold u65;simp
   have hc:Nat.ble ((u65 b.2.1++u65 (b.2.2.1.take i)).length+ [(rdL u01 b.2.2.1 i).1].length) z7z=true:=u0w (by rw[Ba,il _ _ (by omega),hz];simp;omega);simp only[zOb];rw[hc,Bi,j62 _ hi];generalize u92 (rdL u01 b.2.2.1 i)=b1;generalize decide ((rdL u01 b.2.2.1 i).2.1=2)=b2;generalize decide ((rdL u01 b.2.2.1 i).2.2.1<=b.2.2.2.1)=b3;by_cases h0:i=0
   .subst h0;simp only[Ae,Ap,Aa,Dx,Cz];cases b1<;>cases b2<;>cases b3<;>rfl
   .simp only[h0,Ah,Bh,Ad,Ci,s09 (show i<4611686018427387904 by omega) h0,y8h (show i - 1<b.2.2.1.length by omega),zTn];generalize y3i (rdL u01 b.2.2.1 (i - 1)).2.2.2.2.2.2.2 (rdL u01 b.2.2.1 i).2.2.2.2.2.2.2=b4;cases b1<;>cases b2<;>cases b3<;>cases b4<;>rfl)
 rw[r41 (t:=u01) b.2.2.1 (fun t:u0e=>u92 t&&(decide (t.2.1=2)&&decide (t.2.2.1<=b.2.2.2.1))) (fun x y:u0e=>y3i x.2.2.2.2.2.2.2 y.2.2.2.2.2.2.2)] at L3;have L2' :t0b (b, [],0)=_:=L2;have e:u65 b.2.1++u65 (b.2.2.1.take (0:Int).toNat)=u65 b.2.1:=by simp[u65]
 rw[e] at L3;have hI:=j1k b (u65 (b.2.1++b.2.2.1)) (by unfold u65;rw[Da,Ba];omega);have hV:=o01 b.1 (by omega);rw[o90];unfold p2z;rw[hV];simp only[r6y,d9t,gt3,zOb];unfold t0z j7b j02;generalize u7h b.1=c1;generalize inB b.2.2.2.1 0 9999=c3;generalize inB b.2.2.2.2 1 9999=c4;generalize decide (b.2.1.length<=12)=c5;generalize decide (b.2.2.1.length<=3)=c6;generalize ha1:b.1.all (fun v:u4n=>decide (v.2.2.2<=b.2.2.2.1))=a1 at L1;generalize ha2:b.2.1.all (fun t:u0e=>u92 t&&(decide (t.2.1=3)&&decide (t.2.2.2.1<=b.2.2.2.1)))=a2 at L2';generalize ha3:o45 u01 (fun x y:u0e=>decide (x.2.2.2.1<y.2.2.2.1)) b.2.1=a3 at L2';generalize ha4:b.2.2.1.all (fun t:u0e=>u92 t&&(decide (t.2.1=2)&&decide (t.2.2.1<=b.2.2.2.1)))=a4 at L3;generalize ha5:o45 u01 (fun x y:u0e=>y3i x.2.2.2.2.2.2.2 y.2.2.2.2.2.2.2) b.2.2.1=a5 at L3;generalize p1n (u65 (b.2.1++b.2.2.1)) b.2.2.2.2=a6 at hI;have hR:((t7m (b,0)).bind fun r5=>match r5 with
  | .inl o6=>(t0b (o6, [],0)).bind fun r9=>match r9 with
   | .inl o10=>(t4u (o10.1,o10.2,0)).bind fun r13=>match r13 with
    | .inl o14=>(t0c (o14.1,o14.2,0)).bind fun r18=>match r18 with
     | .inl o19=>some true | .inr z20=>some z20
    | .inr z21=>some z21
   | .inr z22=>some z22
  | .inr z23=>some z23)=some (a1&&((a2&&a3)&&((a4&&a5)&&a6))):=by
  rw[L1];cases a1
  .rfl
  .simp only[Ad,zOb,Bz];rw[L2'];cases (a2&&a3)
   .rfl
   .simp only[Ad,zOb,Bz];rw[L3];cases (a4&&a5)
    .rfl
    .simp only[Ad,zOb,Bz];rw[hI];cases a6<;>rfl
 cases c1<;>cases c3<;>cases c4<;>cases c5<;>cases c6<;>simp only[Ap,Bh,Ad,Aa,zOb,Fx,Fy,Bz,Cz]
 exact hR
theorem j60 (e:u3m):d4w.wt e=d7h.wt e.1+(Ty.sl u01).wt e.2:=rfl
theorem o8s (e:u3m) (hw:d4w.wt e<=u0i):r05 e=some (j8e e):=by
 have hb:u0i=1099511627776:=rfl;have hew:=j60 e;have hbw:=q5y e.1;have n1:=s5k (t:=u01) e.2;have n2:=s5k (t:=u01) e.1.2.1;have n3:=s5k (t:=u01) e.1.2.2.1
 have L:=s0l t9f e.2.length (fun i=>(e,e.2,(e.2.length:Int),i)) (fun i=>(fun t:u0e=>u92 t&&(decide (t.2.1=1)&&decide (t.2.2.1<=e.1.2.2.2.1))) (rdL u01 e.2 i)&&(decide (i=0) || (fun x y:u0e=>decide (x.1<y.1)) (rdL u01 e.2 (i - 1)) (rdL u01 e.2 i))) (.inl ()) (.inr false)
  (by rw[r75];simp only[t8m,u0b,Am,Ah,Aa])
  (fun i hi=>by
   have hm:rdL u01 e.2 i∈e.2:=by rw[y9a hi];exact Ag hi
   have ht:=p16 hm;have hk:=t9e (rdL u01 e.2 i) (by omega);rw[r75];simp only[t8m,u0b,hi,Ae,Ad,y8h hi,zTn,y7x (show i<4611686018427387904 by omega),p7z (rdL u01 e.2 i).2.2.1 e.1.2.2.2.1,s6r,zOb];rw[hk];simp only[zOb];generalize u92 (rdL u01 e.2 i)=b1;generalize decide ((rdL u01 e.2 i).2.1=1)=b2;generalize decide ((rdL u01 e.2 i).2.2.1<=e.1.2.2.2.1)=b3;by_cases h0:i=0
   .subst h0;simp only[Ae,Ap,Aa,Dx,Cz];cases b1<;>cases b2<;>cases b3<;>rfl
   .simp only[h0,Ah,Bh,Ad,Ci,s09 (show i<4611686018427387904 by omega) h0,y8h (show i - 1<e.2.length by omega),zTn,p7y (rdL u01 e.2 (i - 1)).1 (rdL u01 e.2 i).1];generalize decide ((rdL u01 e.2 (i - 1)).1<(rdL u01 e.2 i).1)=b4;cases b1<;>cases b2<;>cases b3<;>cases b4<;>rfl)
 rw[r41 (t:=u01) e.2 (fun t:u0e=>u92 t&&(decide (t.2.1=1)&&decide (t.2.2.1<=e.1.2.2.2.1))) (fun x y:u0e=>decide (x.1<y.1))] at L;have hC:=p5c [e.1.2.1,e.1.2.2.1,e.2] (by simp only[List.flatten_cons,List.flatten_nil,Bw,Ba];omega) (by simp);have hf: [e.1.2.1,e.1.2.2.1,e.2].flatten=e.1.2.1++e.1.2.2.1++e.2:=by simp
 rw[hf] at hC;have hI:=p0f (e.1.2.1++e.1.2.2.1++e.2) e.1.2.2.2.2 (by rw[Ba,Ba];omega);have hB:=t3i e.1 (by omega);rw[o1p];unfold q4k;rw[hB];simp only[zOb,gt4];rw[hC];simp only[zOb];rw[hI];simp only[zOb];rw[L];unfold j8e j68;cases t0z e.1<;>cases decide (e.2.length<=4)<;>cases p1n (u65 (e.1.2.1++e.1.2.2.1++e.2)) e.1.2.2.2.2<;>try rfl
 all_goals
  cases e.2.all (fun t:u0e=>u92 t&&(decide (t.2.1=1)&&decide (t.2.2.1<=e.1.2.2.2.1)))<;>cases o45 u01 (fun x y:u0e=>decide (x.1<y.1)) e.2<;>rfl
theorem d18 {b:u0m} {o:Hu u0e} (hb:p1n (u65 (b.2.1++b.2.2.1)) b.2.2.2.2=true) (ho:o45 u01 (fun x y:u0e=>decide (x.1<y.1)) o=true):
 p1n (u65 (b.2.1++b.2.2.1++o)) b.2.2.2.2=o.all (fun t=>decide (t.1<b.2.2.2.2)&&((b.2.1.all fun x=> !decide (x.1=t.1))&&(b.2.2.1.all fun x=> !decide (x.1=t.1)))):=by
 rw[c1m (f:=fun t=>t.1)] at ho;obtain⟨h1,h2⟩:=q53.mp hb;rw[Cd,q53,Bg];simp only[Ai,Ar,Bg,Bj,Bu];unfold u65 at*;constructor
 .rintro⟨k1,k2⟩ t ht
  rw[Dh,Gp] at k2;refine⟨k1 _ (Bx.mpr ⟨t,by simp[ht],rfl⟩),fun x hx=> ?_,fun x hx=> ?_⟩
  .exact k2.2.2 _ (Bx.mpr ⟨x,by simp[hx],rfl⟩) _ (Bx.mpr ⟨t,ht,rfl⟩)
  .exact k2.2.2 _ (Bx.mpr ⟨x,by simp[hx],rfl⟩) _ (Bx.mpr ⟨t,ht,rfl⟩)
 .intro k;constructor
  .intro x hx;obtain⟨t,ht,rfl⟩:=Bx.mp hx;rcases Ay.mp ht with q | q
   .exact h1 _ (Bx.mpr ⟨t,q,rfl⟩)
   .exact(k t q).1
  .rw[Dh,Gp];refine⟨h2,?_,?_⟩
   .rw[D8,Dl];exact ho.imp fun {a b} q e=>by omega
   .intro a ha c hc e;obtain⟨x,hx,rfl⟩:=Bx.mp ha;obtain⟨t,ht,rfl⟩:=Bx.mp hc;rcases Ay.mp hx with q | q
    .exact(k t ht).2.1 x q e
    .exact(k t ht).2.2 x q e
theorem o8t (e:u3m) (hw:d4w.wt e<=549755813888):r1i e=some (j8e e):=by
 have hb:u0i=1099511627776:=rfl;have hew:=j60 e;have hbw:=q5y e.1;have n1:=s5k (t:=u01) e.2;have n2:=s5k (t:=u01) e.1.2.1;have n3:=s5k (t:=u01) e.1.2.2.1;have I1:∀(j:Int) (t:u0e),t0v (e,j,t,0)=some (bif (e.1.2.1.all fun x=> !decide (x.1=t.1)) then .inl (e,j,t) else .inr false):=fun j t=>by
  have L:=s0l t0v e.1.2.1.length (fun i=>(e,j,t,i)) (fun i=>(fun x:u0e=> !decide (x.1=t.1)) (rdL u01 e.1.2.1 i)) (.inl (e,j,t)) (.inr false)
   (by rw[r4i];simp only[t6i,u0b,Am,Ah,Aa])
   (fun i hi=>by
    rw[r4i];simp only[t6i,u0b,hi,Ae,Ad,y8h hi,zTn,y7x (show i<4611686018427387904 by omega)];cases decide ((rdL u01 e.1.2.1 i).1=t.1)<;>rfl)
  rw[r0i (t:=u01) e.1.2.1 (fun x:u0e=> !decide (x.1=t.1))] at L;exact L
 have I2:∀(j:Int) (t:u0e),u77 (e,j,t,0)=some (bif (e.1.2.2.1.all fun x=> !decide (x.1=t.1)) then .inl (e,j) else .inr false):=fun j t=>by
  have L:=s0l u77 e.1.2.2.1.length (fun i=>(e,j,t,i)) (fun i=>(fun x:u0e=> !decide (x.1=t.1)) (rdL u01 e.1.2.2.1 i)) (.inl (e,j)) (.inr false)
   (by rw[r4j];simp only[t6j,u0b,Am,Ah,Aa])
   (fun i hi=>by
    rw[r4j];simp only[t6j,u0b,hi,Ae,Ad,y8h hi,zTn,y7x (show i<4611686018427387904 by omega)];cases decide ((rdL u01 e.1.2.2.1 i).1=t.1)<;>rfl)
  rw[r0i (t:=u01) e.1.2.2.1 (fun x:u0e=> !decide (x.1=t.1))] at L;exact L
 have L:=s0l u9l e.2.length (fun i=>(e,i)) (fun i=>(fun t:u0e=>(u92 t&&(decide (t.2.1=1)&&decide (t.2.2.1<=e.1.2.2.2.1)))&&(decide (t.1<e.1.2.2.2.2)&&((e.1.2.1.all fun x=> !decide (x.1=t.1))&&(e.1.2.2.1.all fun x=> !decide (x.1=t.1))))) (rdL u01 e.2 i)&&(decide (i=0) || (fun x y:u0e=>decide (x.1<y.1)) (rdL u01 e.2 (i - 1)) (rdL u01 e.2 i))) (.inl ()) (.inr false)
  (by rw[r8j];simp only[t80,u0b,Am,Ah,Aa])
  (fun i hi=>by
   have hm:rdL u01 e.2 i∈e.2:=by rw[y9a hi];exact Ag hi
   have ht:=p16 hm;have hk:=s3f (rdL u01 e.2 i) (by omega);have k1:=I1 (i:Int) (rdL u01 e.2 i);have k2:=I2 (i:Int) (rdL u01 e.2 i);rw[r8j];simp only[t80,u0b,hi,Ae,Ad,y8h hi,zTn,y7x (show i<4611686018427387904 by omega),p7z (rdL u01 e.2 i).2.2.1 e.1.2.2.2.1,p7y (rdL u01 e.2 i).1 e.1.2.2.2.2,s6r,zOb];rw[hk,k1];simp only[zOb];generalize u92 (rdL u01 e.2 i)=b1;generalize decide ((rdL u01 e.2 i).2.1=1)=b2;generalize decide ((rdL u01 e.2 i).2.2.1<=e.1.2.2.2.1)=b3;generalize decide ((rdL u01 e.2 i).1<e.1.2.2.2.2)=b5;generalize (e.1.2.1.all fun x=> !decide (x.1=(rdL u01 e.2 i).1))=b6;generalize (e.1.2.2.1.all fun x=> !decide (x.1=(rdL u01 e.2 i).1))=b7 at k2 ⊢;have tail:((bif b6 then Sum.inl (e,(i:Int),rdL u01 e.2 i) else Sum.inr false:(u3m×Int×u0e)⊕Bool) |>fun r5=>(match r5 with
    | .inl o6=>(u77 (o6.1,o6.2.1,o6.2.2,0)).bind fun r7=>match r7 with
     | .inl o8=>u9l (o8.1,i64.wrap (o8.2+1)) | .inr z9=>some (.inr z9)
    | .inr z10=>some (.inr z10)))=bif b6&&b7 then u9l (e,((i+1:Nat):Int)) else some (.inr false):=by
    cases b6
    .rfl
    .simp only[Ad];rw[k2];cases b7
     .rfl
     .simp only[Ad,zOb,y7x (show i<4611686018427387904 by omega)];rfl
   by_cases h0:i=0
   .subst h0;simp only[Ae,Ap,Aa,Dx,Cz];cases b1<;>cases b2<;>cases b3<;>cases b5<;>try rfl
    exact tail
   .simp only[h0,Ah,Bh,Ad,Ci,s09 (show i<4611686018427387904 by omega) h0,y8h (show i - 1<e.2.length by omega),zTn,p7y (rdL u01 e.2 (i - 1)).1 (rdL u01 e.2 i).1];generalize decide ((rdL u01 e.2 (i - 1)).1<(rdL u01 e.2 i).1)=b4;cases b1<;>cases b2<;>cases b3<;>cases b5<;>cases b4<;>(first | rfl | (rw[Fy];rfl) | (rw[Cz];exact tail)))
 rw[r41 (t:=u01) e.2 (fun t:u0e=>(u92 t&&(decide (t.2.1=1)&&decide (t.2.2.1<=e.1.2.2.2.1)))&&(decide (t.1<e.1.2.2.2.2)&&((e.1.2.1.all fun x=> !decide (x.1=t.1))&&(e.1.2.2.1.all fun x=> !decide (x.1=t.1))))) (fun x y:u0e=>decide (x.1<y.1)),j9s] at L;have hB:=s5l e.1 (by omega);rw[o2r];unfold q5a;rw[hB];simp only[zOb,gt4];rw[L];unfold j8e j68;cases h1:t0z e.1
 .rfl
 .have hbi:p1n (u65 (e.1.2.1++e.1.2.2.1)) e.1.2.2.2.2=true:=by
   have:=o7n.mp h1;exact q53.mpr ⟨this.below,this.nodup⟩
  cases ha:o45 u01 (fun x y:u0e=>decide (x.1<y.1)) e.2
  .cases decide (e.2.length<=4)<;>simp
  .rw[d18 hbi ha];cases decide (e.2.length<=4)
   .rfl
   .simp only[Ap,Aa,zOb,Bz,Cz];cases (e.2.all fun t:u0e=>u92 t&&(decide (t.2.1=1)&&decide (t.2.2.1<=e.1.2.2.2.1)))
    .rfl
    .simp only[Bz];cases (e.2.all fun t:u0e=>decide (t.1<e.1.2.2.2.2)&&((e.1.2.1.all fun x=> !decide (x.1=t.1))&&(e.1.2.2.1.all fun x=> !decide (x.1=t.1))))<;>rfl
theorem d9u (n:Nat):decide ((n:Int)=0)=decide (n=0):=by simp
theorem d2m (t:u0e):r1c t=some (noT t):=by
 rw[o2h];unfold q41 noT;simp only[d9u,t9u];cases decide (t.1=0)<;>cases decide (t.2.1=0)<;>cases decide (t.2.2.1=0)<;>cases decide (t.2.2.2.1=0)<;>cases decide (t.2.2.2.2.1.length=0)<;>cases decide (t.2.2.2.2.2.1.length=0)<;>cases t.2.2.2.2.2.2.1<;>rfl
theorem d2n (t:u0e):s44 t=some (noT t):=by
 rw[o3c];unfold q5u noT;simp only[d9u,t9u];cases decide (t.1=0)<;>cases decide (t.2.1=0)<;>cases decide (t.2.2.1=0)<;>cases decide (t.2.2.2.1=0)<;>cases decide (t.2.2.2.2.1.length=0)<;>cases decide (t.2.2.2.2.2.1.length=0)<;>cases t.2.2.2.2.2.2.1<;>rfl
theorem d2j (b:u0m):s8e b=some (noB b):=by
 rw[p89];unfold q0r noB;simp only[d9u];cases decide (b.1.length=0)<;>cases decide (b.2.1.length=0)<;>cases decide (b.2.2.1.length=0)<;>cases decide (b.2.2.2.1=0)<;>rfl
theorem d2k (b:u0m):s8l b=some (noB b):=by
 rw[p9w];unfold q1d noB;simp only[d9u];cases decide (b.1.length=0)<;>cases decide (b.2.1.length=0)<;>cases decide (b.2.2.1.length=0)<;>cases decide (b.2.2.2.1=0)<;>cases decide (b.2.2.2.2=0)<;>rfl
theorem q6y (r:r2l):c1d.wt r=0+(u01.wt r.2.1+(r.2.2.1.size+(0+d7h.wt r.2.2.2.2))):=rfl
theorem p2b (r:r2l) (hw:c1d.wt r<=549755813888):s4q r=some (u86 r):=by
 have hb:u0i=1099511627776:=rfl;have hr:=q6y r;have k1:=t9e r.2.1 (by omega);have k2:=t3i r.2.2.2.2 (by omega);have k3:=s3a r.2.2.1 (by omega);rw[o1w];unfold q4r;rw[d2m,d2j];simp only[k1,k2,k3,o3n,u9b,zOb,t9u];unfold u86;generalize u92 r.2.1=c1;generalize t0z r.2.2.2.2=c2;generalize t02 r.2.2.1=c3;generalize noT r.2.1=c4;generalize noB r.2.2.2.2=c5;generalize decide (r.2.2.1.size=0)=c6;generalize decide (r.2.1.2.1=3)=c7;generalize decide (r.2.1.2.1=2)=c8;generalize r.2.2.2.1=c9;by_cases h1:r.1=1
 .simp only[h1,Ae,Ad,Bl];cases c1<;>cases c5<;>cases c6<;>cases c7<;>cases c9<;>rfl
 .by_cases h2:r.1=2
  .simp only[h2,Ae,Ad,Bl];cases c1<;>cases c5<;>cases c6<;>cases c8<;>cases c9<;>rfl
  .by_cases h3:r.1=3
   .simp only[h3,Ae,Ad,Bl];cases c3<;>cases c4<;>cases c5<;>cases c9<;>rfl
   .by_cases h4:r.1=4
    .simp only[h4,Ae,Ad,Bl];cases c2<;>cases c4<;>cases c6<;>cases c9<;>rfl
    .simp only[h1,h2,h3,h4,Ah,Aa,Bk]
theorem p2c (r:r2l) (hw:c1d.wt r<=549755813888):s4y r=some (u86 r):=by
 have hb:u0i=1099511627776:=rfl;have hr:=q6y r;have k1:=s3f r.2.1 (by omega);have k2:=s5l r.2.2.2.2 (by omega);have k3:=s3b r.2.2.1 (by omega);rw[o2y];unfold q5h;simp only[k1,k2,k3,r6y,d2n,d2k,zOb,t9u];unfold u86;generalize u92 r.2.1=c1;generalize t0z r.2.2.2.2=c2;generalize t02 r.2.2.1=c3;generalize noT r.2.1=c4;generalize noB r.2.2.2.2=c5;generalize decide (r.2.2.1.size=0)=c6;generalize r.2.2.2.1=c9;by_cases h1:r.1=1
 .simp only[h1,show inB 1 1 4=true from rfl,Ae,Ad,Bl];generalize decide (r.2.1.2.1=3)=c7;generalize decide (r.2.1.2.1=2)=c8;cases c1<;>cases c5<;>cases c6<;>cases c7<;>cases c8<;>cases c9<;>rfl
 .by_cases h2:r.1=2
  .simp only[h2,show inB 2 1 4=true from rfl,Ae,Ad,Bl];generalize decide (r.2.1.2.1=3)=c7;generalize decide (r.2.1.2.1=2)=c8;cases c1<;>cases c5<;>cases c6<;>cases c7<;>cases c8<;>cases c9<;>rfl
  .by_cases h3:r.1=3
   .simp only[h3,show inB 3 1 4=true from rfl,Ae,Ad,Bl];cases c3<;>cases c4<;>cases c5<;>cases c9<;>rfl
   .by_cases h4:r.1=4
    .simp only[h4,show inB 4 1 4=true from rfl,Ae,Ad,Bl];cases c2<;>cases c4<;>cases c6<;>cases c9<;>rfl
    .have:inB r.1 1 4=false:=by
      cases h:inB r.1 1 4
      .rfl
      .have:=p6g.mp h;omega
     simp only[h1,h2,h3,h4,this,Ah,Aa,Bk,Bh,Ad]
theorem q96 {α:Type} {P:Prop} [Decidable P] {a b:α} (h:P):(bif decide P then a else b)=a:=by rw[Bb h];rfl
theorem p47 {α:Type} {n:Nat} {a b:α} (h:n<=1099511627776):(bif Nat.ble n z7z then a else b)=a:=by rw[u0w h];rfl
theorem u8r {n:Int} (h0:0<=n) (h1:n<=1000000000):u2a n=some (q63 n):=by
 obtain⟨m,rfl⟩:∃m:Nat,n=m:=⟨n.toNat,by omega⟩;rw[o3q m (by omega)];rfl
theorem j6f {n:Int} (h0:0<=n) (h1:n<=1000000000):t5t n=some (q63 n,true):=by
 rw[q39,Al ⟨h0,h1⟩];rfl
theorem s3e {s:Hs} (h:s.size<=10000):u4a s=some (u0u s):=by
 rw[o3b];unfold q5t;rw[u8r (by omega) (by omega)];simp only[zOb];have:=u2b (n:=(s.size:Int)) (by omega);rw[q96 (by omega)];rfl
theorem j75 {s:Hs} (h:s.size<=10000):t5k s=some (u0u s,true):=by
 rw[p6x s (by omega),Ao (by omega)]
theorem p99 (b:Bool):t93 b=some (j5m b):=by
 rw[j0h];unfold p3g;cases b<;>rfl
theorem p4l {r:s5b} (h:r.1.size<=100/\r.2.size<=100):(j40 r).size<=204:=by
 have q1:=u09 (s:=r.1) (by omega);have q2:=u09 (s:=r.2) (by omega);unfold j40;rw[Af];omega
theorem s6p {E:Type} (f:E->Hs) (l:Hu E) (s:Hs):l.foldl (fun s x=>s++f x) s=s++q3v f l:=p3m f l s
theorem q38 (t:u0e) (ht:u01.wt t<=549755813888):s62 t=some (if u92 t=true then(t8g t,true) else(emp,false)):=by
 have hb:u0i=1099511627776:=rfl;rw[o6f];unfold q9l;rw[s3f t (by omega)];simp only[zOb];cases hc:u92 t
 .rfl
 .have h:=p4u.mp hc;obtain⟨z1,z2,z3,z4,z5⟩:=h.small;have hi:=h.id;have hst:=h.st;have hsn:=h.snap;have hrl:=h.rlen;have v1:=u2b (n:=t.1) (by omega);have v2:=u2b (n:=t.2.1) (by omega);have v3:=u2b (n:=t.2.2.1) (by omega);have v4:=u2b (n:=t.2.2.2.1) (by omega);have v5:=u2b (n:=(t.2.2.2.2.1.length:Int)) (by omega);have v6:=u2b (n:=(t.2.2.2.2.2.1.length:Int)) (by omega);have v7:=u09 (s:=t.2.2.2.2.2.2.2) (by omega);have L1:∀A:Hs,A.size<=1000->t43 (t,A,0)=some (.inl (t,A++q3v j40 t.2.2.2.2.1)):=fun A hA=>by
   have:=t13 t43 t.2.2.2.2.1 (fun(A:Hs) i=>(t,A,i)) (fun A r=>A++j40 r) (fun A=> .inl (t,A)) (fun i A=>A.size<=1000+i*204)
    (fun A _=>by rw[q3m];simp only[s14,u0b,Am,Ah,Aa])
    (fun i hi A hP=>by
     have hr:=z1 _ (Ag hi);have hs:=p4l (r:=t.2.2.2.2.1[i]) (by omega);have hs' :=hs;unfold j40 at hs';rw[Af] at hs';refine⟨by rw[Af,C7];omega,?_⟩;rw[q3m];simp only[s14,u0b,hi,Ae,Ad,y8h hi,zTn,y9a (t:=t3e) hi,y7x (show i<4611686018427387904 by omega)];rw[s3e (by omega),s3e (by omega)];simp only[zOb];rw[q96 (by omega),q96 (by rw[Af];omega),t1x];rfl) A (by omega)
   rw[s6p] at this;exact this
  have L2:∀A:Hs,A.size<=10000->t2e (t,A,0)=some (.inl (t,A++q3v wrT t.2.2.2.2.2.1)):=fun A hA=>by
   have:=t13 t2e t.2.2.2.2.2.1 (fun(A:Hs) i=>(t,A,i)) (fun A r=>A++wrT r) (fun A=> .inl (t,A)) (fun i A=>A.size<=10000+i*304)
    (fun A _=>by rw[r8t];simp only[t9a,u0b,Am,Ah,Aa])
    (fun i hi A hP=>by
     have hr:=z2 _ (Ag hi);have q1:=u09 (s:=(t.2.2.2.2.2.1[i]).1) (by omega);have q2:=u09 (s:=(t.2.2.2.2.2.1[i]).2.1) (by omega);have q3:=u34 (t.2.2.2.2.2.1[i]).2.2;refine⟨by unfold wrT;simp only[Af,C7];omega,?_⟩;rw[r8t];simp only[t9a,u0b,hi,Ae,Ad,y8h hi,zTn,y9a (t:=u2m) hi,y7x (show i<4611686018427387904 by omega)];rw[s3e (by omega),s3e (by omega),p99];simp only[zOb];rw[q96 (by omega),q96 (by rw[Af];omega),q96 (by simp only[Af];omega),t1x,t1x];rfl) A (by omega)
   rw[s6p] at this;exact this
  have n1:(q3v j40 t.2.2.2.2.1).size<=t.2.2.2.2.1.length*204:=s4e fun r hr=>p4l (by have:=z1 r hr;omega)
  have n2:(q3v wrT t.2.2.2.2.2.1).size<=t.2.2.2.2.2.1.length*304:=s4e fun w hw=>by
   have:=z2 w hw;have q1:=u09 (s:=w.1) (by omega);have q2:=u09 (s:=w.2.1) (by omega);unfold wrT;rw[Af,Af,u34];omega
  simp only[Ap,Aa,Bl];rw[u8r (n:=t.1) (by omega) (by omega),u8r (n:=t.2.1) (by omega) (by omega),u8r (n:=t.2.2.1) (by omega) (by omega),u8r (n:=t.2.2.2.1) (by omega) (by omega),u8r (n:=(t.2.2.2.2.1.length:Int)) (by omega) (by omega)];simp only[zOb];rw[q96 (by omega),q96 (by simp only[Af];omega),q96 (by simp only[Af];omega),q96 (by simp only[Af];omega),L1 _ (by simp only[Af];omega)];simp only[zOb];rw[u8r (n:=(t.2.2.2.2.2.1.length:Int)) (by omega) (by omega)];simp only[zOb];rw[q96 (by simp only[Af];omega),L2 _ (by simp only[Af];omega)];simp only[zOb];rw[p99,s3e (by omega)];simp only[zOb];rw[q96 (by simp only[Af,u34];omega),q96 (by simp only[Af,u34];omega)];unfold t8g;simp only[t1x]
theorem d04 {l:Hu u0e} {t:u0e} (h:t∈l) (hl:(Ty.sl u01).wt l<=549755813888):u01.wt t<=549755813888:=A9 (p16 h) hl
theorem j2j (l:Hu u0e) (hl:(Ty.sl u01).wt l<=549755813888) (hn:l.length<=10000) (h:∀t∈l,TxnR t):s66 l=some (r72 l):=by
 have v1:=u2b (n:=(l.length:Int)) (by omega);have L:t47 (l,q63 (l.length:Int),0)=some (.inl (q63 (l.length:Int)++q3v t8g l)):=by
  have:=t13 t47 l (fun(A:Hs) i=>(l,A,i)) (fun A r=>A++t8g r) (fun A=> .inl A) (fun i A=>A.size<=2+i*300)
   (fun A _=>by rw[q3q];simp only[s18,u0b,Am,Ah,Aa])
   (fun i hi A hP=>by
    have hm:=Ag hi;have hr:=s47 (h _ hm);refine⟨by rw[Af,C7];omega,?_⟩;rw[q3q];simp only[s18,u0b,hi,Ae,Ad,y8h hi,zTn,y9a (t:=u01) hi,y7x (show i<4611686018427387904 by omega)];rw[q38 _ (d04 hm hl),Al (p4u.mpr (h _ hm))];simp only[zOb];rw[q96 (by omega)]) (q63 (l.length:Int)) (by omega)
  rw[s6p] at this;exact this
 rw[o6s];unfold q9z;rw[u8r (by omega) (by omega)];simp only[zOb];rw[L];rfl
theorem o8q (b:u0m) (hw:d7h.wt b<=549755813888):r1h b=some (if t0z b=true then(s7c b,true) else(emp,false)):=by
 have hbw:=q5y b;rw[o2q];unfold q49;rw[s5l b hw];simp only[zOb];cases hc:t0z b
 .rfl
 .have h:=o7n.mp hc;obtain⟨w1,w2,w3⟩:=d1n.mp h.vs;have hcs:=h.cs;have hx:=h.next;have hp:=h.plen;have hr:=h.rlen;have q1:=u2b (n:=b.2.2.2.1) (by omega);have q2:=u2b (n:=b.2.2.2.2) (by omega);have q3:=u2b (n:=(b.1.length:Int)) (by omega);have q4:=s4e (f:=j4r) (k:=22) (l:=b.1) (fun v hv=>p4z (w1 v hv));have q5:=s93 (l:=b.2.1) (by omega) (fun t ht=>(h.past t ht).1);have q6:=s93 (l:=b.2.2.1) (by omega) (fun t ht=>(h.ready t ht).1);have L:∀A:Hs,A.size<=1000->t19 (b,A,0)=some (.inl (b,A++q3v j4r b.1)):=fun A hA=>by
   have:=t13 t19 b.1 (fun(A:Hs) i=>(b,A,i)) (fun A r=>A++j4r r) (fun A=> .inl (b,A)) (fun i A=>A.size<=1000+i*22)
    (fun A _=>by rw[r8i];simp only[t8z,u0b,Am,Ah,Aa])
    (fun i hi A hP=>by
     have hm:=w1 _ (Ag hi);have hr:=p4z hm;have hv:=r1u hm;have s1:=u09 (s:=(b.1[i]).1) (by omega);have s2:=u09 (s:=(b.1[i]).2.1) (by omega);have s3:=u34 (b.1[i]).2.2.1;have s4:=u2b (n:=(b.1[i]).2.2.2) (by omega);refine⟨by rw[Af,C7];omega,?_⟩;rw[r8i];simp only[t8z,u0b,hi,Ae,Ad,y8h hi,zTn,y9a (t:=u0g) hi,y7x (show i<4611686018427387904 by omega)];rw[s3e (by omega),s3e (by omega),p99,u8r (by omega) (by omega)];simp only[zOb];rw[q96 (by omega),q96 (by simp only[Af];omega),q96 (by simp only[Af];omega),q96 (by simp only[Af];omega)];unfold j4r;simp only[t1x]) A (by omega)
   rw[s6p] at this;exact this
  simp only[Ap,Aa,Bl];rw[u8r (n:=b.2.2.2.1) (by omega) (by omega),u8r (n:=b.2.2.2.2) (by omega) (by omega),u8r (n:=(b.1.length:Int)) (by omega) (by omega)];simp only[zOb];rw[q96 (by omega),q96 (by simp only[Af];omega),L _ (by simp only[Af];omega)];simp only[zOb];rw[j2j b.2.1 (by omega) (by omega) (fun t ht=>(h.past t ht).1),j2j b.2.2.1 (by omega) (by omega) (fun t ht=>(h.ready t ht).1)];simp only[zOb];rw[q96 (by simp only[Af];omega),q96 (by simp only[Af];omega)];unfold s7c;simp only[t1x]
theorem r02 (A:Hs) (ns:Hu Int) (hn:∀n∈ns,0<=n/\n<16384) (hl:ns.length<=10) (hA:A.size<=1000000):u7t (z7w A,ns)=some (z7w (A++q3v q63 ns)):=by
 have:=t13 t9m ns (fun(A:Hs) i=>(z7w A,ns,(ns.length:Int),i)) (fun A n=>A++q63 n) (fun A=> .inl (z7w A)) (fun i A=>A.size<=1000000+i*2)
  (fun A _=>by rw[r8e];simp only[t8v,u0b,Am,Ah,Aa])
  (fun i hi A hP=>by
   have hm:=hn _ (Ag hi);have hv:=u2b (n:=ns[i]) hm.2;refine⟨by rw[Af,C7];omega,?_⟩;rw[r8e];simp only[t8v,u0b,hi,Ae,Ad,y8h hi,zTn,y9a (t:=Ty.int .i64) hi,y7x (show i<4611686018427387904 by omega)];rw[j6f hm.1 (by omega)];simp only[zOb];rw[p47 (by rw[t0e,t0e];omega),s3j]) A (by omega)
 rw[s6p] at this;rw[o2j];unfold q42;simp only;rw[this];rfl
theorem s7l (A:Hs) (ns:Hu Hs) (hn:∀n∈ns,n.size<=100) (hl:ns.length<=10) (hA:A.size<=1000000):u8m (z7w A,ns)=some (z7w (A++q3v u0u ns)):=by
 have:=t13 t6u ns (fun(A:Hs) i=>(z7w A,ns,(ns.length:Int),i)) (fun A n=>A++u0u n) (fun A=> .inl (z7w A)) (fun i A=>A.size<=1000000+i*102)
  (fun A _=>by rw[r4g];simp only[t6g,u0b,Am,Ah,Aa])
  (fun i hi A hP=>by
   have hm:=hn _ (Ag hi);have hv:=u09 (s:=ns[i]) (by omega);refine⟨by rw[Af,C7];omega,?_⟩;rw[r4g];simp only[t6g,u0b,hi,Ae,Ad,y8h hi,zTn,y9a (t:=Ty.str) hi,y7x (show i<4611686018427387904 by omega)];rw[j75 (by omega)];simp only[zOb];rw[p47 (by rw[t0e,t0e];omega),s3j]) A (by omega)
 rw[s6p] at this;rw[p9e];unfold q0w;simp only;rw[this];rfl
theorem r3v (A:Hs) (b:Bool) (hA:A.size<=1000000):t0i (z7w A,b)=some (z7w (A++j5m b)):=by
 rw[p9d];unfold q0v;have e:z7w (j5m b)= [if b then 1 else 0] :=by cases b<;>rfl
 rw[s3j,e];cases b
 .simp only[Aa];rw[p47 (by rw[t0e];simp;omega)];rfl
 .simp only[Ad];rw[p47 (by rw[t0e];simp;omega)];rfl
theorem p72 (ns:Hu Int) (hn:∀n∈ns,0<=n/\n<16384) (hl:ns.length<=10):u7t (([] :Hu Int),ns)=some (z7w (q3v q63 ns)):=by
 have:=r02 emp ns hn hl (by simp[emp,ByteArray.size]);rw[j5u] at this;exact this
theorem r9a {E:Type} (f:E->Hs) (a:E):q3v f [a] =f a:=by rw[r0k,o9d,j5l]
theorem o0d {E:Type} (f:E->Hs) (a b:E):q3v f [a,b] =f a++f b:=by rw[r0k,r9a]
theorem o7o {E:Type} (f:E->Hs) (a b c:E):q3v f [a,b,c] =f a++(f b++f c):=by rw[r0k,o0d]
theorem j9z {E:Type} (f:E->Hs) (a b c d e:E):q3v f [a,b,c,d,e] =f a++(f b++(f c++(f d++f e))):=by rw[r0k,r0k,o7o]
theorem q37 (t:u0e) (ht:u01.wt t<=549755813888):s6v t=some (if u92 t=true then(t8g t,true) else(emp,false)):=by
 have hb:u0i=1099511627776:=rfl;rw[o5p];unfold q8x;rw[t9e t (by omega)];simp only[zOb];cases hc:u92 t
 .rfl
 .have h:=p4u.mp hc;obtain⟨z1,z2,z3,z4,z5⟩:=h.small;have hi:=h.id;have hst:=h.st;have hsn:=h.snap;have hrl:=h.rlen;have v1:=u2b (n:=t.1) (by omega);have v2:=u2b (n:=t.2.1) (by omega);have v3:=u2b (n:=t.2.2.1) (by omega);have v4:=u2b (n:=t.2.2.2.1) (by omega);have v5:=u2b (n:=(t.2.2.2.2.1.length:Int)) (by omega);have v6:=u2b (n:=(t.2.2.2.2.2.1.length:Int)) (by omega);have v7:=u09 (s:=t.2.2.2.2.2.2.2) (by omega);have L1:∀A:Hs,A.size<=1000->t4s (t,z7w A,t.2.2.2.2.1,(t.2.2.2.2.1.length:Int),0)=some (.inl (t,z7w (A++q3v j40 t.2.2.2.2.1))):=fun A hA=>by
   have:=t13 t4s t.2.2.2.2.1 (fun(A:Hs) i=>(t,z7w A,t.2.2.2.2.1,(t.2.2.2.2.1.length:Int),i)) (fun A r=>A++j40 r) (fun A=> .inl (t,z7w A)) (fun i A=>A.size<=1000+i*204)
    (fun A _=>by rw[q22];simp only[s1k,u0b,Am,Ah,Aa])
    (fun i hi A hP=>by
     have hr:=z1 _ (Ag hi);have hs:=p4l (r:=t.2.2.2.2.1[i]) (by omega);refine⟨by rw[Af,C7];omega,?_⟩;rw[q22];simp only[s1k,u0b,hi,Ae,Ad,y8h hi,zTn,y9a (t:=t3e) hi,y7x (show i<4611686018427387904 by omega)];rw[s7l A [(t.2.2.2.2.1[i]).1,(t.2.2.2.2.1[i]).2] (by intro n hn;simp only[A8,Du,Em] at hn;rcases hn with rfl | rfl<;>omega) (by simp) (by omega)];simp only[zOb];rw[o0d];rfl) A (by omega)
   rw[s6p] at this;exact this
  have L2:∀A:Hs,A.size<=10000->t17 (t,z7w A,t.2.2.2.2.2.1,(t.2.2.2.2.2.1.length:Int),0)=some (.inl (t,z7w (A++q3v wrT t.2.2.2.2.2.1))):=fun A hA=>by
   have:=t13 t17 t.2.2.2.2.2.1 (fun(A:Hs) i=>(t,z7w A,t.2.2.2.2.2.1,(t.2.2.2.2.2.1.length:Int),i)) (fun A r=>A++wrT r) (fun A=> .inl (t,z7w A)) (fun i A=>A.size<=10000+i*304)
    (fun A _=>by rw[r8b];simp only[t8s,u0b,Am,Ah,Aa])
    (fun i hi A hP=>by
     have hr:=z2 _ (Ag hi);have q1:=u09 (s:=(t.2.2.2.2.2.1[i]).1) (by omega);have q2:=u09 (s:=(t.2.2.2.2.2.1[i]).2.1) (by omega);have q3:=u34 (t.2.2.2.2.2.1[i]).2.2;refine⟨by unfold wrT;simp only[Af,C7];omega,?_⟩;rw[r8b];simp only[t8s,u0b,hi,Ae,Ad,y8h hi,zTn,y9a (t:=u2m) hi,y7x (show i<4611686018427387904 by omega)];rw[s7l A [(t.2.2.2.2.2.1[i]).1,(t.2.2.2.2.2.1[i]).2.1] (by intro n hn;simp only[A8,Du,Em] at hn;rcases hn with rfl | rfl<;>omega) (by simp) (by omega)];simp only[zOb];rw[o0d,r3v _ _ (by simp only[Af];omega)];simp only[zOb];unfold wrT;simp only[t1x]) A (by omega)
   rw[s6p] at this;exact this
  have n1:(q3v j40 t.2.2.2.2.1).size<=t.2.2.2.2.1.length*204:=s4e fun r hr=>p4l (by have:=z1 r hr;omega)
  have n2:(q3v wrT t.2.2.2.2.2.1).size<=t.2.2.2.2.2.1.length*304:=s4e fun w hw=>by
   have:=z2 w hw;have q1:=u09 (s:=w.1) (by omega);have q2:=u09 (s:=w.2.1) (by omega);unfold wrT;rw[Af,Af,u34];omega
  simp only[Ap,Aa,Bl];rw[p72 [t.1,t.2.1,t.2.2.1,t.2.2.2.1,(t.2.2.2.2.1.length:Int)] (by intro n hn;simp only[A8,Du,Em] at hn;rcases hn with rfl | rfl | rfl | rfl | rfl<;>omega) (by simp)];simp only[zOb];rw[j9z,L1 _ (by simp only[Af];omega)];simp only[zOb];rw[r02 _ [(t.2.2.2.2.2.1.length:Int)] (by intro n hn;simp only[A8,Du,Em] at hn;subst hn;omega) (by simp) (by simp only[Af];omega)];simp only[zOb];rw[r9a,L2 _ (by simp only[Af];omega)];simp only[zOb];rw[r3v _ _ (by simp only[Af];omega)];simp only[zOb];rw[s7l _ [t.2.2.2.2.2.2.2] (by intro n hn;simp only[A8,Du,Em] at hn;subst hn;omega) (by simp) (by simp only[Af,u34];omega)];simp only[zOb];rw[r9a,s28];unfold t8g;simp only[t1x]
theorem o8p (b:u0m) (hw:d7h.wt b<=549755813888):r03 b=some (if t0z b=true then(s7c b,true) else(emp,false)):=by
 have hb:u0i=1099511627776:=rfl;have hbw:=q5y b;rw[o1l];unfold q4g;rw[t3i b (by omega)];simp only[zOb];cases hc:t0z b
 .rfl
 .have h:=o7n.mp hc;obtain⟨w1,w2,w3⟩:=d1n.mp h.vs;have hcs:=h.cs;have hx:=h.next;have hp:=h.plen;have hr:=h.rlen;have q1:=u2b (n:=b.2.2.2.1) (by omega);have q2:=u2b (n:=b.2.2.2.2) (by omega);have q3:=u2b (n:=(b.1.length:Int)) (by omega);have q4:=s4e (f:=j4r) (k:=22) (l:=b.1) (fun v hv=>p4z (w1 v hv));have q5:=s93 (l:=b.2.1) (by omega) (fun t ht=>(h.past t ht).1);have q6:=s93 (l:=b.2.2.1) (by omega) (fun t ht=>(h.ready t ht).1);have L:∀A:Hs,A.size<=1000->t14 (b,z7w A,b.1,(b.1.length:Int),0)=some (.inl (b,z7w (A++q3v j4r b.1))):=fun A hA=>by
   have:=t13 t14 b.1 (fun(A:Hs) i=>(b,z7w A,b.1,(b.1.length:Int),i)) (fun A r=>A++j4r r) (fun A=> .inl (b,z7w A)) (fun i A=>A.size<=1000+i*22)
    (fun A _=>by rw[r74];simp only[t8l,u0b,Am,Ah,Aa])
    (fun i hi A hP=>by
     have hm:=w1 _ (Ag hi);have hr:=p4z hm;have hv:=r1u hm;have s1:=u09 (s:=(b.1[i]).1) (by omega);have s2:=u09 (s:=(b.1[i]).2.1) (by omega);have s3:=u34 (b.1[i]).2.2.1;refine⟨by rw[Af,C7];omega,?_⟩;rw[r74];simp only[t8l,u0b,hi,Ae,Ad,y8h hi,zTn,y9a (t:=u0g) hi,y7x (show i<4611686018427387904 by omega)];rw[s7l A [(b.1[i]).1,(b.1[i]).2.1] (by intro n hn;simp only[A8,Du,Em] at hn;rcases hn with rfl | rfl<;>omega) (by simp) (by omega)];simp only[zOb];rw[o0d,r3v _ _ (by simp only[Af];omega)];simp only[zOb];rw[r02 _ [(b.1[i]).2.2.2] (by intro n hn;simp only[A8,Du,Em] at hn;subst hn;omega) (by simp) (by simp only[Af];omega)];simp only[zOb];rw[r9a];unfold j4r;simp only[t1x]) A (by omega)
   rw[s6p] at this;exact this
  have IN:∀(A:Hs) (g:Hu (Hu u0e)) (n k:Int) (l:Hu u0e),A.size<=100000->l.length<=100->(Ty.sl u01).wt l<=549755813888->(∀t∈l,TxnR t)->
   t0r (z7w A,g,n,k,l,(l.length:Int),0)=some (.inl (z7w (A++q3v t8g l),g,n,k)):=fun A g n k l hA hl hlw hok=>by
   have:=t13 t0r l (fun(A:Hs) i=>(z7w A,g,n,k,l,(l.length:Int),i)) (fun A r=>A++t8g r) (fun A=> .inl (z7w A,g,n,k)) (fun i A=>A.size<=100000+i*300)
    (fun A _=>by rw[r39];simp only[t59,u0b,Am,Ah,Aa])
    (fun i hi A hP=>by
     have hm:=Ag hi;have hr:=s47 (hok _ hm);refine⟨by rw[Af,C7];omega,?_⟩;rw[r39];simp only[t59,u0b,hi,Ae,Ad,y8h hi,zTn,y9a (t:=u01) hi,y7x (show i<4611686018427387904 by omega)];rw[q37 _ (d04 hm hlw),Al (p4u.mpr (hok _ hm))];simp only[zOb];rw[p47 (by rw[t0e,t0e];omega),s3j]) A (by omega)
   rw[s6p] at this;exact this
  have O:∀A:Hs,A.size<=10000->t6r (z7w A, [b.2.1,b.2.2.1],2,0)=some (.inl (z7w (A++r72 b.2.1++r72 b.2.2.1))):=fun A hA=>by
   have v1:=u2b (n:=(b.2.1.length:Int)) (by omega);have v2:=u2b (n:=(b.2.2.1.length:Int)) (by omega);have e0:y4v 0 [b.2.1,b.2.2.1].length=true:=rfl;have e1:y4v 1 [b.2.1,b.2.2.1].length=true:=rfl;have r0:rdL (Ty.sl u01) [b.2.1,b.2.2.1] (0:Int).toNat=b.2.1:=rfl;have r1:rdL (Ty.sl u01) [b.2.1,b.2.2.1] (1:Int).toNat=b.2.2.1:=rfl;have w0:i64.wrap ((0:Int)+1)=1:=rfl;have w1:i64.wrap ((1:Int)+1)=2:=rfl;rw[s48];simp only[t0n];rw[q96 (by omega),e0,r0,r02 A [(b.2.1.length:Int)] (by intro n hn;simp only[A8,Du,Em] at hn;subst hn;omega) (by simp) (by omega)];simp only[Ad,zOb];rw[r9a,IN _ _ _ _ b.2.1 (by simp only[Af];omega) (by omega) (by omega) (fun t ht=>(h.past t ht).1)];simp only[zOb];rw[w0,s48];simp only[t0n];have n1:(A++q63 (b.2.1.length:Int)++q3v t8g b.2.1).size<=20000:=by
    have:A++q63 (b.2.1.length:Int)++q3v t8g b.2.1=A++r72 b.2.1:=by unfold r72;rw[t1x]
    rw[this,Af];omega
   rw[q96 (by omega),e1,r1,r02 _ [(b.2.2.1.length:Int)] (by intro n hn;simp only[A8,Du,Em] at hn;subst hn;omega) (by simp) (by omega)];simp only[Ad,zOb];rw[r9a,IN _ _ _ _ b.2.2.1 (by rw[Af];omega) (by omega) (by omega) (fun t ht=>(h.ready t ht).1)];simp only[zOb];rw[w1,s48];simp only[t0n];unfold r72;simp[t1x]
  simp only[Ap,Aa,Bl];rw[p72 [b.2.2.2.1,b.2.2.2.2,(b.1.length:Int)] (by intro n hn;simp only[A8,Du,Em] at hn;rcases hn with rfl | rfl | rfl<;>omega) (by simp)];simp only[zOb];rw[o7o,L _ (by simp only[Af];omega)];simp only[zOb];have e2:(([b.2.1,b.2.2.1] :Hu (Hu u0e)).length:Int)=2:=rfl;rw[e2,O _ (by simp only[Af];omega)];simp only[zOb];rw[s28];unfold s7c;simp only[t1x]
theorem j7k {W:Int×Hs×Int×Int->Ht ((Int×Hs×Int)⊕Unit)}
 (hW:∀x,W x=(bif decide (x.2.2.2<(8:Int)) then(bif decide (Int.tmod x.1 (2:Int)=(1:Int)) then W (u32.wrap ((BitVec.ofInt u32.bits (u32.wrap (Int.tdiv x.1 (2:Int)))^^^BitVec.ofInt u32.bits (3558460437:Int)).toNat:Int),x.2.1,x.2.2.1,i64.wrap (x.2.2.2+(1:Int)))
  else W (u32.wrap (Int.tdiv x.1 (2:Int)),x.2.1,x.2.2.1,i64.wrap (x.2.2.2+(1:Int)))) else some (.inl (x.1,x.2.1,x.2.2.1)))) (t:Hs) (k:Int):
 ∀(n:Nat) (x:Int) (i:Nat),i+n=8->W (x,t,k,(i:Int))=some (.inl (o4i n x,t,k)):=by
 intro n
 induction n with
 | zero=>
  intro x i hi;have:i=8:=by omega
  subst this;rw[hW];rfl
 | succ n ih=>
  intro x i hi;rw[hW];simp only;rw[q96 (by omega),y7x (by omega),ih _ (i+1) (by omega),ih _ (i+1) (by omega)];rw[show o4i (n+1) x=o4i n (d0z x) from rfl];unfold d0z d50;cases decide (Int.tmod x 2=1)<;>rfl
theorem j7l (f:Int->UInt8->Int) (t:Hs) {W:Int×Hs×Int->Ht (Int⊕Unit)} (ht:t.size<=1099511627776)
 (hend:∀x,W (x,t,(t.size:Int))=some (.inl x))
 (hstep:∀(i:Nat),i<t.size-> ∀x,W (x,t,(i:Int))=W (f x (t.data.toList.getD i 0),t,((i+1:Nat):Int))) (x:Int):W (x,t,0)=some (.inl (t.data.toList.foldl f x)):=by
 have e:t.size=t.data.toList.length:=p1d t
 exact t13 W t.data.toList (fun x i=>(x,t,i)) f (fun x=> .inl x) (fun _ _=>True) (fun x _=>by rw[←e];exact hend x)
  (fun i hi x _=>⟨trivial,by
   rw[hstep i (by rw[e];exact hi) x];congr 2;rw[A5,A4 hi];rfl⟩) x trivial
theorem j2d (x:Int) (t:Hs) (ht:t.size<=1099511627776):r5i (x,t)=some (t.data.toList.foldl o4j x):=by
 have L:=j7l o4j t (W:=s2a) ht
  (fun x=>by rw[q2x];simp only[s1f,u0b,Am,Ah,Aa])
  (fun i hi x=>by
   rw[q2x];simp only[s1f,u0b,hi,Ae,Ad,y8h hi,zTn];have:=j7k (W:=s2b) (fun x=>p95 x) t (i:Int) 8 (d50 x (u32.wrap ((t.data.toList.getD i 0).toNat:Int))) 0 rfl;unfold d50 at this;rw[show((0:Nat):Int)=0 from rfl] at this;rw[this];simp only[zOb,y7x (show i<4611686018427387904 by omega)];rfl) x
 rw[o5l];unfold q8t;simp only[L,zOb]
theorem p6y (x:Int) (t:Hs) (ht:t.size<=1099511627776):r5r (x,t)=some (t.data.toList.foldl o4j x):=by
 have L:=j7l o4j t (W:=s2h) ht
  (fun x=>by rw[q3i];simp only[s10,u0b,Am,Ah,Aa])
  (fun i hi x=>by
   rw[q3i];simp only[s10,u0b,hi,Ae,Ad,y8h hi,zTn];have:=j7k (W:=s2i) (fun x=>p97 x) t (i:Int) 8 (d50 x (u32.wrap ((t.data.toList.getD i 0).toNat:Int))) 0 rfl;unfold d50 at this;rw[show((0:Nat):Int)=0 from rfl] at this;rw[this];simp only[zOb,y7x (show i<4611686018427387904 by omega)];rfl) x
 rw[o6b];unfold q9h;simp only[L,zOb]
theorem s97 (t:Hs) (ht:t.size<=1099511627776):t9z t=some (o4c t):=by
 rw[o9u];unfold p2s o4c;have e1:decide ((t.size:Int) >20000)= !decide (t.size<=20000):=by by_cases h:t.size<=20000<;>simp[h] <;>omega
 rw[e1,j2w];unfold p69;rw[j2d _ _ ht];simp only[zOb];by_cases h:t.size<=20000
 .rw[Bb h,Al h];simp only[Ap,Aa];rw[q96 (by rw[u58];simp;omega)];rfl
 .rw[A7 h,Ao h];rfl
theorem r85 (t:Hs) (ht:t.size<=1099511627776):s40 t=some (o4c t):=by
 rw[j0b];unfold p3a o4c;have e1:decide ((t.size:Int) >20000)= !decide (t.size<=20000):=by by_cases h:t.size<=20000<;>simp[h] <;>omega
 rw[e1,p7w];unfold q5l;rw[p6y _ _ ht];simp only[zOb];rw[p0c];unfold q9q;simp only[zOb];by_cases h:t.size<=20000
 .rw[Bb h,Al h];simp only[Ap,Aa];rw[q96 (by rw[u58];simp;omega)];rfl
 .rw[A7 h,Ao h];rfl
theorem t39 (k:Int):(y7s [k]).size=1:=u58 _
theorem q7j {k:Int} (h0:0<=k) (h1:k<=255): [u8.wrap k] =z7w (y7s [u8.wrap k]):=by
 obtain⟨n,rfl⟩:∃n:Nat,k=n:=⟨k.toNat,by omega⟩;rw[j6g,show((n:Int) % 256)=n by omega];unfold z7w y7s;simp;omega
theorem t7g (r:r2l) (hw:c1d.wt r<=549755813888):u40 r=some (u0v r):=by
 have hr:=q6y r;rw[p58];unfold r6l u0v;rw[p2c r hw];simp only[zOb];cases hc:u86 r
 .rfl
 .have h:=d37.mp hc;have hz:=s91 h;simp only[Ap,Aa,Bl];cases h with
  | thr t h hs=>
   have:=s47 h
   have ht:=q38 t (by have:u01.wt t<=c1d.wt (1,t,emp,false,u70):=by rw[hr];simp only;omega
                      omega)
   rw[Al (p4u.mpr h)] at ht;simp only[Int.reduceEq,Ae,Ah,Ad,Aa];rw[ht];simp only[zOb];rw[q96 (by rw[t39];omega),r85 _ (by rw[Af,t39];omega)];rfl
  | rdy t h hs=>
   have:=s47 h
   have ht:=q38 t (by have:u01.wt t<=c1d.wt (2,t,emp,false,u70):=by rw[hr];simp only;omega
                      omega)
   rw[Al (p4u.mpr h)] at ht;simp only[Int.reduceEq,Ae,Ah,Ad,Aa];rw[ht];simp only[zOb];rw[q96 (by rw[t39];omega),r85 _ (by rw[Af,t39];omega)];rfl
  | fin n y h=>
   have:=u2y h;have q:=u09 (s:=n) (by omega);simp only[Int.reduceEq,Ae,Ah,Ad,Aa];rw[s3e (by omega)];simp only[zOb];rw[q96 (by rw[t39];omega),p99];simp only[zOb];rw[q96 (by simp only[Af,t39,u34];omega),r85 _ (by simp only[Af,t39,u34];omega),t1x];rfl
  | bas b h=>
   have:=p5n h;have a1:=(d1n.mp h.vs).2.2;have a2:=h.plen;have a3:=h.rlen
   have ht:=o8q b (by have:d7h.wt b<=c1d.wt (4,u6a,emp,false,b):=by rw[hr];simp only;omega
                      omega)
   rw[Al (o7n.mpr h)] at ht;simp only[Int.reduceEq,Ae,Ah,Ad,Aa];rw[ht];simp only[zOb];rw[q96 (by rw[t39];omega),r85 _ (by rw[Af,t39];omega)];rfl
theorem t7f (r:r2l) (hw:c1d.wt r<=549755813888):u4y r=some (u0v r):=by
 have hr:=q6y r;rw[p5v];unfold r58 u0v;rw[p2b r hw];simp only[zOb];cases hc:u86 r
 .rfl
 .have h:=d37.mp hc;have hz:=s91 h;simp only[Ap,Aa,Bl];cases h with
  | thr t h hs=>
   have:=s47 h
   have ht:=q37 t (by have:u01.wt t<=c1d.wt (1,t,emp,false,u70):=by rw[hr];simp only;omega
                      omega)
   rw[Al (p4u.mpr h)] at ht;simp only[Int.reduceEq,Ae,Ah,Ad,Aa];rw[ht];simp only[zOb];rw[p47 (by rw[t0e];simp;omega),q7j (k:=1) (by omega) (by omega),←s3j,s28,s97 _ (by rw[Af,t39];omega)];rfl
  | rdy t h hs=>
   have:=s47 h
   have ht:=q37 t (by have:u01.wt t<=c1d.wt (2,t,emp,false,u70):=by rw[hr];simp only;omega
                      omega)
   rw[Al (p4u.mpr h)] at ht;simp only[Int.reduceEq,Ae,Ah,Ad,Aa];rw[ht];simp only[zOb];rw[p47 (by rw[t0e];simp;omega),q7j (k:=2) (by omega) (by omega),←s3j,s28,s97 _ (by rw[Af,t39];omega)];rfl
  | fin n y h=>
   have:=u2y h;have q:=u09 (s:=n) (by omega);simp only[Int.reduceEq,Ae,Ah,Ad,Aa];rw[q7j (k:=3) (by omega) (by omega),s7l _ [n] (by intro m hm;simp only[A8,Du,Em] at hm;subst hm;omega) (by simp) (by rw[t39];omega)];simp only[zOb];rw[r9a,r3v _ _ (by rw[Af,t39];omega)];simp only[zOb];rw[s28,s97 _ (by simp only[Af,t39,u34];omega),t1x];rfl
  | bas b h=>
   have:=p5n h;have a1:=(d1n.mp h.vs).2.2;have a2:=h.plen;have a3:=h.rlen
   have ht:=o8p b (by have:d7h.wt b<=c1d.wt (4,u6a,emp,false,b):=by rw[hr];simp only;omega
                      omega)
   rw[Al (o7n.mpr h)] at ht;simp only[Int.reduceEq,Ae,Ah,Ad,Aa];rw[ht];simp only[zOb];rw[p47 (by rw[t0e];simp;omega),q7j (k:=4) (by omega) (by omega),←s3j,s28,s97 _ (by rw[Af,t39];omega)];rfl
def inT (s:Hs) (c:Cur):Prop:=0<=c.1/\c.1<=(s.size:Int)
def bad (c:Cur) (k:Int):Int:=if c.2=true then k else 0
theorem u2i {s:Hs} {c:Cur} (h:inT s c):inT s (u20 s c).2/\0<=(u20 s c).1/\(u20 s c).1<=1000000000/\c.1+1<=(u20 s c).2.1+bad (u20 s c).2 1:=by
 unfold u20;split
 .refine⟨h,by simp,by simp,?_⟩;simp only[bad,Bl];omega
 .rename_i q;simp only[Hr,Ey,Bool.not_eq_false] at q;have:=s3o q.2;refine⟨⟨?_,?_⟩,?_,?_,?_⟩
  .simp only;omega
  .simp only;omega
  .simp only;omega
  .simp only;omega
  .simp only[bad,Br,Bk];omega
theorem o65 {t:Hs} {a:Int} (h:(u0p t a).2.2=true):a+1+((u0p t a).1.size:Int)<=(u0p t a).2.1/\0<=a:=by
 unfold u0p at h ⊢;split at h
 .rename_i hc;rw[Al hc];have:=s3o hc.1;simp only[Bd];omega
 .cases h
theorem t06 {s:Hs} {c:Cur} (h:inT s c):inT s (u29 s c).2/\c.1+1+((u29 s c).1.size:Int)<=(u29 s c).2.1+bad (u29 s c).2 1:=by
 unfold u29;split
 .refine⟨h,?_⟩;simp only[bad,Bl,emp,ByteArray.size];simp
 .rename_i q;simp only[Hr,Ey,Bool.not_eq_false] at q;have h1:=q6x q.2;have h2:=o65 q.2;refine⟨⟨?_,?_⟩,?_⟩
  .simp only;omega
  .simp only;omega
  .simp only[bad,Br,Bk];omega
theorem j7i {s:Hs} {c:Cur} (h:inT s c):inT s (p48 s c).2/\c.1+1<=(p48 s c).2.1+bad (p48 s c).2 1:=by
 unfold p48;split
 .refine⟨h,?_⟩;simp only[bad,Bl];omega
 .rename_i q;simp only[Hr,Decidable.not_not] at q;unfold inT;simp only[bad,Br,Bk];omega
theorem t2h (c:Cur) {k:Int} (hk:0<=k):0<=bad c k/\bad c k<=k:=by unfold bad;split<;>omega
theorem p3l {c c' :Cur} (h:c.2=true->c'.2=true) {k:Int} (hk:0<=k):bad c k<=bad c' k:=by
 unfold bad;by_cases q:c.2=true
 .rw[Al q,Al (h q)];omega
 .rw[Ao q];split<;>omega
def d4p {E:Type} (w:E->Nat) (k:Int) (s:Hs) (f:Cur->E×Cur):Prop:= ∀c,inT s c->inT s (f c).2/\c.1+1+(w (f c).1:Int)<=(f c).2.1+bad (f c).2 k
theorem s07 {E:Type} {w:E->Nat} {k:Int} {s:Hs} {f:Cur->E×Cur} (hk:0<=k) (hf:d4p w k s f):∀(n:Nat) (c:Cur) (a:Hu E),inT s c->
 inT s (u3b f n c a).2/\c.1+((u3b f n c a).1.length+((u3b f n c a).1.map w).sum:Nat)<=(u3b f n c a).2.1+(a.length+(a.map w).sum:Nat)+bad (u3b f n c a).2 k
 | 0,c,a,h=>⟨h,by have:=t2h (u3b f 0 c a).2 hk;simp only[u3b] at*;omega⟩ | n+1,c,a,h=>by
  simp only[u3b];split
  .exact⟨h,by have:=t2h c hk;simp only;omega⟩
  .obtain⟨h1,h2⟩:=hf c h;obtain⟨h3,h4⟩:=s07 hk hf n (f c).2 (a++ [(f c).1]) h1;refine⟨h3,?_⟩;have e1:(a++ [(f c).1]).length=a.length+1:=by simp
   have e2:((a++ [(f c).1]).map w).sum=(a.map w).sum+w (f c).1:=by simp
   rw[e1,e2] at h4;have hm:bad (f c).2 k<=bad (u3b f n (f c).2 (a++ [(f c).1])).2 k/\(bad (f c).2 k≠0->u3b f n (f c).2 (a++ [(f c).1])=(a++ [(f c).1],(f c).2)):=by
    by_cases q:(f c).2.2=true
    .rw[s06 q];exact⟨Bv _,fun _=>rfl⟩
    .have:bad (f c).2 k=0:=by unfold bad;rw[Ao q]
     rw[this];exact⟨(t2h _ hk).1,fun h=>absurd rfl h⟩
   by_cases z:bad (f c).2 k=0
   .omega
   .have e:=hm.2 z;rw[e];simp only[e1,e2];omega
theorem q6s (s:Hs):d4p t3e.wt 2 s (j0x s):=fun c h=>by
 obtain⟨h1,h2⟩:=t06 h;obtain⟨h3,h4⟩:=t06 h1;have b1:=p3l (c:=(u29 s c).2) (c' :=(u29 s (u29 s c).2).2) r7z (k:=1) (by omega);have b2:bad (u29 s (u29 s c).2).2 2=2*bad (u29 s (u29 s c).2).2 1:=by unfold bad;split<;>omega
 refine⟨h3,?_⟩;have e:t3e.wt (j0x s c).1=(u29 s c).1.size+(u29 s (u29 s c).2).1.size:=rfl;have e2:(j0x s c).2=(u29 s (u29 s c).2).2:=rfl;rw[e,e2];omega
theorem p4k (s:Hs):d4p u2m.wt 3 s (rWr s):=fun c h=>by
 obtain⟨h1,h2⟩:=t06 h;obtain⟨h3,h4⟩:=t06 h1;obtain⟨h5,h6⟩:=j7i h3;have b1:=p3l (c:=(u29 s c).2) (c' :=(u29 s (u29 s c).2).2) r7z (k:=1) (by omega);have b2:=p3l (c:=(u29 s (u29 s c).2).2) (c' :=(p48 s (u29 s (u29 s c).2).2).2) p4j (k:=1) (by omega);have b3:bad (p48 s (u29 s (u29 s c).2).2).2 3=3*bad (p48 s (u29 s (u29 s c).2).2).2 1:=by unfold bad;split<;>omega
 refine⟨h5,?_⟩;have e:u2m.wt (rWr s c).1=(u29 s c).1.size+((u29 s (u29 s c).2).1.size+0):=rfl;have e2:(rWr s c).2=(p48 s (u29 s (u29 s c).2).2).2:=rfl;rw[e,e2];omega
theorem q6u (s:Hs):d4p u0g.wt 4 s (j0z s):=fun c h=>by
 obtain⟨h1,h2⟩:=p4k s c h;obtain⟨h3,h4,h5,h6⟩:=u2i h1;have b1:=p3l (c:=(rWr s c).2) (c' :=(u20 s (rWr s c).2).2) t4c (k:=3) (by omega);have b3:bad (u20 s (rWr s c).2).2 4=bad (u20 s (rWr s c).2).2 1+bad (u20 s (rWr s c).2).2 3:=by unfold bad;split<;>omega
 refine⟨h3,?_⟩;have e:u0g.wt (j0z s c).1=u2m.wt (rWr s c).1:=rfl;have e2:(j0z s c).2=(u20 s (rWr s c).2).2:=rfl;rw[e,e2];omega
theorem o34 (m:Nat) (s:Hs):d4p u01.wt 20 s (o0f m s):=fun c h=>by
 unfold o0f;simp only;obtain⟨a1,a2,a3,a4⟩:=u2i h;generalize hA:u20 s c=A at a1 a2 a3 a4 ⊢;obtain⟨b1,b2,b3,b4⟩:=u2i a1;have mB:A.2.2=true->(u20 s A.2).2.2=true:=t4c;generalize hB:u20 s A.2=B at b1 b2 b3 b4 mB ⊢;obtain⟨d1,d2,d3,d4⟩:=u2i b1;have mD:B.2.2=true->(u20 s B.2).2.2=true:=t4c;generalize hD:u20 s B.2=D at d1 d2 d3 d4 mD ⊢;obtain⟨e1,e2,e3,e4⟩:=u2i d1;have mE:D.2.2=true->(u20 s D.2).2.2=true:=t4c;generalize hE:u20 s D.2=E at e1 e2 e3 e4 mE ⊢;obtain⟨f1,f2,f3,f4⟩:=u2i e1;have mF:E.2.2=true->(u20 s E.2).2.2=true:=t4c;generalize hF:u20 s E.2=F at f1 f2 f3 f4 mF ⊢;obtain⟨g1,g2⟩:=s07 (by omega) (q6s s) (min F.1.toNat m) F.2 [] f1;have mG:F.2.2=true->(u3b (j0x s) (min F.1.toNat m) F.2 []).2.2=true:=fun q=>by rw[s06 q];exact q
 generalize hG:u3b (j0x s) (min F.1.toNat m) F.2 [] =G at g1 g2 mG ⊢;obtain⟨k1,k2,k3,k4⟩:=u2i g1;have mK:G.2.2=true->(u20 s G.2).2.2=true:=t4c;generalize hK:u20 s G.2=K at k1 k2 k3 k4 mK ⊢;obtain⟨l1,l2⟩:=s07 (by omega) (p4k s) (min K.1.toNat m) K.2 [] k1;have mL:K.2.2=true->(u3b (rWr s) (min K.1.toNat m) K.2 []).2.2=true:=fun q=>by rw[s06 q];exact q
 generalize hL:u3b (rWr s) (min K.1.toNat m) K.2 [] =L at l1 l2 mL ⊢;obtain⟨o1,o2⟩:=j7i l1;have mO:L.2.2=true->(p48 s L.2).2.2=true:=p4j;generalize hO:p48 s L.2=O at o1 o2 mO ⊢;obtain⟨p1,p2⟩:=t06 o1;have mP:O.2.2=true->(u29 s O.2).2.2=true:=r7z;generalize hP:u29 s O.2=P at p1 p2 mP ⊢;refine⟨p1,?_⟩;have e:u01.wt (A.1,B.1,D.1,E.1,G.1,L.1,O.1,P.1)=0+(0+(0+(0+((Ty.sl t3e).wt G.1+((Ty.sl u2m).wt L.1+(0+P.1.size)))))):=rfl;have eG:(Ty.sl t3e).wt G.1=G.1.length+(G.1.map t3e.wt).sum:=rfl;have eL:(Ty.sl u2m).wt L.1=L.1.length+(L.1.map u2m.wt).sum:=rfl;simp only[Cc,Eh,Gq] at g2 l2;rw[e,eG,eL];by_cases q:P.2.2=true
 .have:bad P.2 20=20:=by unfold bad;rw[Al q]
  rw[this];have t1:=(t2h A.2 (k:=1) (by omega)).2;have t2:=(t2h B.2 (k:=1) (by omega)).2;have t3:=(t2h D.2 (k:=1) (by omega)).2;have t4:=(t2h E.2 (k:=1) (by omega)).2;have t5:=(t2h F.2 (k:=1) (by omega)).2;have t6:=(t2h G.2 (k:=2) (by omega)).2;have t7:=(t2h K.2 (k:=1) (by omega)).2;have t8:=(t2h L.2 (k:=3) (by omega)).2;have t9:=(t2h O.2 (k:=1) (by omega)).2;have t10:=(t2h P.2 (k:=1) (by omega)).2;omega
 .have zP:P.2.2=false:=by simpa using q
  have z:∀ {x y:Cur},(x.2=true->y.2=true)->y.2=false->x.2=false:=fun {x y} i j=>by
   cases w:x.2
   .rfl
   .rw[i w] at j;cases j
  have zO:=z mP zP;have zL:=z mO zO;have zK:=z mL zL;have zG:=z mK zK;have zF:=z mG zG;have zE:=z mF zF;have zD:=z mE zE;have zB:=z mD zD;have zA:=z mB zB;simp only[bad,zP,zO,zL,zK,zG,zF,zE,zD,zB,zA,Br,Bk] at*;omega
theorem r7v (m:Nat) (s:Hs):d4p u01.wt 20 s (u81 m s):=fun c h=>by
 obtain⟨h1,h2⟩:=o34 m s c h;refine⟨h1,?_⟩;have:bad (o0f m s c).2 20<=bad (u81 m s c).2 20:=p3l (fun q=>by unfold u81;simp only[q,Dx]) (by omega);have e1:(u81 m s c).1=(o0f m s c).1:=rfl;have e2:(u81 m s c).2.1=(o0f m s c).2.1:=rfl;rw[e1,e2];omega
theorem s2n {s:Hs} (c:Cur) (hs:s.size<=u0i):u1l (s,c)=some ((u20 s c).1,s,(u20 s c).2):=by
 rw[p51];unfold r6e u20;simp only[p6v s c.1 hs,zOb];cases h1:c.2
 .cases h2:(u0x s c.1).2.2<;>simp
 .simp
theorem s7v {s:Hs} (c:Cur) (hs:s.size<=u0i):u2o (s,c)=some ((u29 s c).1,s,(u29 s c).2):=by
 rw[p30];unfold r2x u29;simp only[q8e s c.1 hs,zOb];cases h1:c.2
 .cases h2:(u0p s c.1).2.2
  .simp[emp]
  .simp
 .simp[emp]
theorem gt1 (n:Nat):decide ((n:Int) >1)=decide (1<n):=by simp;omega
theorem eq1 (n:Nat):decide ((n:Int)=1)=decide (n=1):=by simp;omega
theorem p38 {s:Hs} (c:Cur) (hs:s.size<=u0i):u8d (s,c)=some ((p48 s c).1,s,(p48 s c).2):=by
 have hb:u0i=1099511627776:=rfl;rw[p3z];unfold r2w p48;simp only[s49];rw[y5f (n:=(s.size:Int) - 1) (by omega) (by omega)];cases h1:c.2
 .by_cases h2:0<=c.1/\c.1<(s.size:Int)
  .obtain⟨k,hk⟩:∃k:Nat,c.1=k:=⟨c.1.toNat,by omega⟩;have e1:r8x c.1 0 ((s.size:Int) - 1)=true:=by rw[r49];exact Bb (by omega)
   have e2:i64.wrap (i64.wrap (c.1+1) - 1)=c.1:=by rw[y5f (n:=c.1+1) (by omega) (by omega),y5f (by omega) (by omega)];omega
   have e3:i64.wrap (c.1+1)=c.1+1:=y5f (by omega) (by omega);rw[hk] at e1 e2 e3 ⊢;have e4:i64.wrap (k:Int)=k:=y5f (by omega) (by omega);have e5:i64.wrap ((k:Int)+1 - 1)=k:=by rw[y5f (by omega) (by omega)];omega
   simp only[e1,e2,e3,e5,Aa,zOb,Ap,y8h (show k<s.size by omega),Ad,zTn,gt1,eq1];rw[show(s.data.toList.getD k 0).toNat=u94 s k from rfl];by_cases h3:1<u94 s k
   .simp[h3]
   .have h3' :u94 s k<=1:=by omega
    have h4:((k:Int)<(s.size:Int)):=by omega
    simp[h3,h3',show k<s.size by omega,e4,y8h (show k<s.size by omega)]
  .have e1:r8x c.1 0 ((s.size:Int) - 1)=false:=by rw[r49];exact A7 (by omega)
   simp only[e1,Aa,zOb,Bh,Ad];rw[Al (.inr (.inl h2))]
 .simp
theorem s7g {E X R U:Type} {s:Hs} (W:X->Ht (R⊕U)) (mk:Cur->Hu E->Int->X) (res:Cur->Hu E->R) (f:Cur->E×Cur) (N:Nat)
 (hf:∀c,inT s c->inT s (f c).2)
 (hend:∀c a (i:Nat),(N<=i\/c.2=true)->W (mk c a (i:Int))=some (.inl (res c a)))
 (hstep:∀c a (i:Nat),i<N->c.2=false->inT s c->a.length<=i->W (mk c a (i:Int))=W (mk (f c).2 (a++ [(f c).1]) ((i+1:Nat):Int))):
 ∀(k i:Nat) c a,i+k=N->inT s c->a.length<=i->W (mk c a (i:Int))=some (.inl (res (u3b f k c a).2 (u3b f k c a).1)):=by
 intro k
 induction k with
 | zero=>intro i c a hi hc ha;exact hend c a i (.inl (by omega)) | succ k ih=>
  intro i c a hi hc ha;simp only[u3b];split
  .rename_i q;exact hend c a i (.inr q)
  .rename_i q;rw[hstep c a i (by omega) (by simpa using q) hc ha,ih (i+1) _ _ (by omega) (hf c hc) (by simp;omega)]
theorem p3n {n:Int} {i:Nat} {c:Cur} (h:n.toNat<=i\/c.2=true):((bif decide ((i:Int)<n) then some (!c.2) else some false:Ht Bool))=some false:=by
 rcases h with h | h
 .rw[A7 (by omega)];rfl
 .rw[h];cases decide ((i:Int)<n)<;>rfl
theorem q50 {n:Int} {i:Nat} {c:Cur} (h:i<n.toNat) (hc:c.2=false):((bif decide ((i:Int)<n) then some (!c.2) else some false:Ht Bool))=some true:=by
 rw[Bb (by omega),hc];rfl
theorem q52 {E:Type} {w:E->Nat} {k:Int} {s:Hs} {f:Cur->E×Cur} (h:d4p w k s f):∀c,inT s c->inT s (f c).2:=fun c hc=>(h c hc).1
theorem d0t {s:Hs} (hs:s.size<=u0i) (t:u0e) (ht:t.2.2.2.2.1= []) {c:Cur} (hc:inT s c):
 u37 ((s,c),t,())=some ((s,(u3b (j0x s) (min (u20 s c).1.toNat 1000000000) (u20 s c).2 []).2),
  (t.1,t.2.1,t.2.2.1,t.2.2.2.1,(u3b (j0x s) (min (u20 s c).1.toNat 1000000000) (u20 s c).2 []).1,t.2.2.2.2.2),()):=by
 obtain⟨h1,h2,h3,h4⟩:=u2i hc;rw[s0t];unfold u87;simp only;rw[s2n c hs];simp only[zOb];generalize u20 s c=y at h1 h2 h3 h4 ⊢
 have L:=s7g (s:=s) u1f (fun(c:Cur) (a:Hu s5b) i=>((s,c),(((t.1,t.2.1,t.2.2.1,t.2.2.2.1,a,t.2.2.2.2.2):u0e),()),y.1,i))
  (fun(c:Cur) (a:Hu s5b)=>((s,c),((t.1,t.2.1,t.2.2.1,t.2.2.2.1,a,t.2.2.2.2.2):u0e),())) (j0x s) y.1.toNat (q52 (q6s s))
  (fun c a i h=>by rw[u8e];simp only[u2f];rw[p3n h];rfl)
  (fun c a i h hc2 hin ha=>by
   rw[u8e];simp only[u2f];rw[q50 h hc2];simp only[zOb,Ad];rw[p1i];unfold r0e;simp only;rw[s7v c hs];simp only[zOb];rw[s7v _ hs];simp only[zOb];rw[p47 (by simp;omega),y7x (by omega)];rfl) y.1.toNat 0 y.2 [] (by omega) h1 (by simp)
 rw[show min y.1.toNat 1000000000=y.1.toNat by omega];obtain⟨t1,t2,t3,t4,t5,t6⟩:=t;simp only at ht;subst ht;have L' :u1f ((s,y.2),(((t1,t2,t3,t4, [],t6):u0e),()),y.1,0)=some (.inl ((s,(u3b (j0x s) y.1.toNat y.2 []).2),((t1,t2,t3,t4,(u3b (j0x s) y.1.toNat y.2 []).1,t6):u0e),())):=L;rw[L'];rfl
theorem d3g {s:Hs} (hs:s.size<=u0i) (t:u0e) (ht:t.2.2.2.2.2.1= []) {c:Cur} (hc:inT s c):
 u38 ((s,c),(),t)=some ((s,(u3b (rWr s) (min (u20 s c).1.toNat 1000000000) (u20 s c).2 []).2),(),
  (t.1,t.2.1,t.2.2.1,t.2.2.2.1,t.2.2.2.2.1,(u3b (rWr s) (min (u20 s c).1.toNat 1000000000) (u20 s c).2 []).1,t.2.2.2.2.2.2)):=by
 obtain⟨h1,h2,h3,h4⟩:=u2i hc;rw[s0u];unfold u88;simp only;rw[s2n c hs];simp only[zOb];generalize u20 s c=y at h1 h2 h3 h4 ⊢
 have L:=s7g (s:=s) u1g (fun(c:Cur) (a:Hu WrT) i=>((s,c),((),((t.1,t.2.1,t.2.2.1,t.2.2.2.1,t.2.2.2.2.1,a,t.2.2.2.2.2.2):u0e)),y.1,i))
  (fun(c:Cur) (a:Hu WrT)=>((s,c),(),((t.1,t.2.1,t.2.2.1,t.2.2.2.1,t.2.2.2.2.1,a,t.2.2.2.2.2.2):u0e))) (rWr s) y.1.toNat (q52 (p4k s))
  (fun c a i h=>by rw[u8f];simp only[u2g];rw[p3n h];rfl)
  (fun c a i h hc2 hin ha=>by
   rw[u8f];simp only[u2g];rw[q50 h hc2];simp only[zOb,Ad];rw[p1j];unfold r0f;simp only;rw[s7v c hs];simp only[zOb];rw[s7v _ hs];simp only[zOb];rw[p38 _ hs];simp only[zOb];rw[p47 (by simp;omega),y7x (by omega)];rfl) y.1.toNat 0 y.2 [] (by omega) h1 (by simp)
 rw[show min y.1.toNat 1000000000=y.1.toNat by omega];obtain⟨t1,t2,t3,t4,t5,t6,t7⟩:=t;simp only at ht;subst ht;have L' :u1g ((s,y.2),((),((t1,t2,t3,t4,t5, [],t7):u0e)),y.1,0)=some (.inl ((s,(u3b (rWr s) y.1.toNat y.2 []).2),(),((t1,t2,t3,t4,t5,(u3b (rWr s) y.1.toNat y.2 []).1,t7):u0e))):=L;rw[L'];rfl
theorem j07 {s:Hs} (hs:s.size<=1048576) {c:Cur} (hc:inT s c):t2s (s,c)=some ((u81 1000000000 s c).1,s,(u81 1000000000 s c).2):=by
 have hb:u0i=1099511627776:=rfl;have hs' :s.size<=u0i:=by omega
 have hw:=o34 1000000000 s c hc;have hin:=hc;unfold inT at hin;have hwt:u01.wt (o0f 1000000000 s c).1<=u0i:=by
  have h1:=hw.1;unfold inT at h1;have:=(t2h (o0f 1000000000 s c).2 (k:=20) (by omega)).2;have:=hw.2;omega
 have hk:=t9e _ hwt;rw[p52];unfold r6f;unfold u81;unfold o0f at hk ⊢;simp only at hk ⊢;rw[s2n c hs'];simp only[zOb];have i1:=(u2i hc).1;rw[s2n _ hs'];simp only[zOb];have i2:=(u2i i1).1;rw[s2n _ hs'];simp only[zOb];have i3:=(u2i i2).1;rw[s2n _ hs'];simp only[zOb];have i4:=(u2i i3).1;rw[d0t hs' _ rfl i4];simp only[zOb];have i5:=(s07 (by omega) (q6s s) (min (u20 s (u20 s (u20 s (u20 s (u20 s c).2).2).2).2).1.toNat 1000000000) (u20 s (u20 s (u20 s (u20 s (u20 s c).2).2).2).2).2 [] (u2i i4).1).1;rw[d3g hs' _ rfl i5];simp only[zOb];rw[p38 _ hs'];simp only[zOb];rw[s7v _ hs'];simp only[zOb];rw[hk];simp only[zOb];generalize u29 s _=z;cases h:z.2.2
 .simp
 .simp
def d5g:Lim:=⟨1000000000,1000000000,1000000000,1000000000⟩
theorem d5h:d5g.ok:=⟨by decide,by decide,by decide,by decide⟩
theorem j0y {m k:Nat} {s:Hs} {c:Cur} (h:inT s c):inT s (t5p m k s c).2/\c.1+((Ty.sl u01).wt (t5p m k s c).1:Nat)<=(t5p m k s c).2.1+20+1:=by
 obtain⟨h1,h2,h3,h4⟩:=u2i h;obtain⟨g1,g2⟩:=s07 (by omega) (r7v m s) (min (u20 s c).1.toNat k) (u20 s c).2 [] h1;refine⟨g1,?_⟩;have e:(Ty.sl u01).wt (t5p m k s c).1=(t5p m k s c).1.length+((t5p m k s c).1.map u01.wt).sum:=rfl;rw[e];have t1:=(t2h (u20 s c).2 (k:=1) (by omega)).2;have t2:=(t2h (u3b (u81 m s) (min (u20 s c).1.toNat k) (u20 s c).2 []).2 (k:=20) (by omega)).2;unfold t5p;simp only[Cc,Eh,Gq] at g2;omega
theorem j0w (m:Lim) {s:Hs} {c:Cur} (h:inT s c):inT s (r7y m s c).2/\(d7h.wt (r7y m s c).1:Int)<=(s.size:Int)+100:=by
 unfold r7y;simp only;obtain⟨a1,a2,a3,a4⟩:=u2i h;obtain⟨b1,b2,b3,b4⟩:=u2i a1;obtain⟨d1,d2,d3,d4⟩:=u2i b1;obtain⟨g1,g2⟩:=s07 (by omega) (q6u s) (min (u20 s (u20 s (u20 s c).2).2).1.toNat m.v) (u20 s (u20 s (u20 s c).2).2).2 [] d1;obtain⟨p1,p2⟩:=j0y (m:=m.t) (k:=m.p) g1;obtain⟨q1,q2⟩:=j0y (m:=m.t) (k:=m.r) p1;refine⟨q1,?_⟩;have t1:=(t2h (u3b (j0z s) (min (u20 s (u20 s (u20 s c).2).2).1.toNat m.v) (u20 s (u20 s (u20 s c).2).2).2 []).2 (k:=4) (by omega)).2;have u1:=(t2h (u20 s c).2 (k:=1) (by omega)).2;have u2:=(t2h (u20 s (u20 s c).2).2 (k:=1) (by omega)).2;have u3:=(t2h (u20 s (u20 s (u20 s c).2).2).2 (k:=1) (by omega)).2;generalize u3b (j0z s) (min (u20 s (u20 s (u20 s c).2).2).1.toNat m.v) (u20 s (u20 s (u20 s c).2).2).2 [] =vs at*;simp only[Cc,Eh,Gq] at g2;have e:=q5y (vs.1,(t5p m.t m.p s vs.2).1,(t5p m.t m.r s (t5p m.t m.p s vs.2).2).1,(u20 s c).1,(u20 s (u20 s c).2).1);simp only at e;have eV:(Ty.sl u0g).wt vs.1=vs.1.length+(vs.1.map u0g.wt).sum:=rfl
 unfold inT at q1 h;rw[e,eV];omega
theorem d06 {s:Hs} (hs:s.size<=u0i) (b:u0m) (ht:b.1= []) {c:Cur} (hc:inT s c):
 u3n ((s,c),(),b)=some ((s,(u3b (j0z s) (min (u20 s c).1.toNat 1000000000) (u20 s c).2 []).2),(),
  ((u3b (j0z s) (min (u20 s c).1.toNat 1000000000) (u20 s c).2 []).1,b.2)):=by
 obtain⟨h1,h2,h3,h4⟩:=u2i hc;rw[s0d];unfold u8w;simp only;rw[s2n c hs];simp only[zOb];generalize u20 s c=y at h1 h2 h3 h4 ⊢
 have L:=s7g (s:=s) u1b (fun(c:Cur) (a:Hu u4n) i=>((s,c),((),((a,b.2):u0m)),y.1,i))
  (fun(c:Cur) (a:Hu u4n)=>((s,c),(),((a,b.2):u0m))) (j0z s) y.1.toNat (q52 (q6u s))
  (fun c a i h=>by rw[u7x];simp only[u17];rw[p3n h];rfl)
  (fun c a i h hc2 hin ha=>by
   rw[u7x];simp only[u17];rw[q50 h hc2];simp only[zOb,Ad];rw[q72];unfold s8t;simp only;rw[s7v c hs];simp only[zOb];rw[s7v _ hs];simp only[zOb];rw[p38 _ hs];simp only[zOb];rw[s2n _ hs];simp only[zOb];rw[p47 (by simp;omega),y7x (by omega)];rfl) y.1.toNat 0 y.2 [] (by omega) h1 (by simp)
 rw[show min y.1.toNat 1000000000=y.1.toNat by omega];obtain⟨b1,b2⟩:=b;simp only at ht;subst ht;have L' :u1b ((s,y.2),((),(([],b2):u0m)),y.1,0)=some (.inl ((s,(u3b (j0z s) y.1.toNat y.2 []).2),(),(((u3b (j0z s) y.1.toNat y.2 []).1,b2):u0m))):=L;rw[L'];rfl
theorem d0m {s:Hs} (hs:s.size<=1048576) (b:u0m) (ht:b.2.1= []) {c:Cur} (hc:inT s c):
 u3o ((s,c),b,())=some ((s,(t5p 1000000000 1000000000 s c).2),(b.1,(t5p 1000000000 1000000000 s c).1,b.2.2),()):=by
 have hb:u0i=1099511627776:=rfl;obtain⟨h1,h2,h3,h4⟩:=u2i hc;rw[s0e];unfold u8x t5p;simp only;rw[s2n c (by omega)];simp only[zOb];generalize u20 s c=y at h1 h2 h3 h4 ⊢
 have L:=s7g (s:=s) u1c (fun(c:Cur) (a:Hu u0e) i=>((s,c),(((b.1,a,b.2.2):u0m),()),y.1,i))
  (fun(c:Cur) (a:Hu u0e)=>((s,c),((b.1,a,b.2.2):u0m),())) (u81 1000000000 s) y.1.toNat (q52 (r7v _ s))
  (fun c a i h=>by rw[u7y];simp only[u18];rw[p3n h];rfl)
  (fun c a i h hc2 hin ha=>by
   rw[u7y];simp only[u18];rw[q50 h hc2];simp only[zOb,Ad];rw[q73];unfold s8u;simp only;rw[j07 hs hin];simp only[zOb];rw[p47 (by simp;omega),y7x (by omega)];rfl) y.1.toNat 0 y.2 [] (by omega) h1 (by simp)
 rw[show min y.1.toNat 1000000000=y.1.toNat by omega];obtain⟨b1,b2,b3⟩:=b;simp only at ht;subst ht;have L' :u1c ((s,y.2),(((b1, [],b3):u0m),()),y.1,0)=some (.inl ((s,(u3b (u81 1000000000 s) y.1.toNat y.2 []).2),((b1,(u3b (u81 1000000000 s) y.1.toNat y.2 []).1,b3):u0m),())):=L;rw[L'];rfl
theorem j8n {s:Hs} (hs:s.size<=1048576) (b:u0m) (ht:b.2.2.1= []) {c:Cur} (hc:inT s c):
 u3p ((s,c),b,())=some ((s,(t5p 1000000000 1000000000 s c).2),(b.1,b.2.1,(t5p 1000000000 1000000000 s c).1,b.2.2.2),()):=by
 have hb:u0i=1099511627776:=rfl;obtain⟨h1,h2,h3,h4⟩:=u2i hc;rw[s0f];unfold u8y t5p;simp only;rw[s2n c (by omega)];simp only[zOb];generalize u20 s c=y at h1 h2 h3 h4 ⊢
 have L:=s7g (s:=s) u1d (fun(c:Cur) (a:Hu u0e) i=>((s,c),(((b.1,b.2.1,a,b.2.2.2):u0m),()),y.1,i))
  (fun(c:Cur) (a:Hu u0e)=>((s,c),((b.1,b.2.1,a,b.2.2.2):u0m),())) (u81 1000000000 s) y.1.toNat (q52 (r7v _ s))
  (fun c a i h=>by rw[u7z];simp only[u19];rw[p3n h];rfl)
  (fun c a i h hc2 hin ha=>by
   rw[u7z];simp only[u19];rw[q50 h hc2];simp only[zOb,Ad];rw[q74];unfold s8v;simp only;rw[j07 hs hin];simp only[zOb];rw[p47 (by simp;omega),y7x (by omega)];rfl) y.1.toNat 0 y.2 [] (by omega) h1 (by simp)
 rw[show min y.1.toNat 1000000000=y.1.toNat by omega];obtain⟨b1,b2,b3,b4⟩:=b;simp only at ht;subst ht;have L' :u1d ((s,y.2),(((b1,b2, [],b4):u0m),()),y.1,0)=some (.inl ((s,(u3b (u81 1000000000 s) y.1.toNat y.2 []).2),((b1,b2,(u3b (u81 1000000000 s) y.1.toNat y.2 []).1,b4):u0m),())):=L;rw[L'];rfl
theorem j9v {s:Hs} (hs:s.size<=1048576) {c:Cur} (hc:inT s c):s4v (s,c)=some ((t99 d5g s c).1,s,(t99 d5g s c).2):=by
 have hb:u0i=1099511627776:=rfl;have hs' :s.size<=u0i:=by omega
 have hw:=j0w d5g (s:=s) hc;have hk:=t3i (r7y d5g s c).1 (by have:=hw.2;omega);rw[p3y];unfold r2v;unfold t99;unfold r7y at hk ⊢;simp only at hk ⊢;rw[s2n c hs'];simp only[zOb];have i1:=(u2i hc).1;rw[s2n _ hs'];simp only[zOb];have i2:=(u2i i1).1;rw[d06 hs' _ rfl i2];simp only[zOb];have i3:=(s07 (by omega) (q6u s) (min (u20 s (u20 s (u20 s c).2).2).1.toNat 1000000000) (u20 s (u20 s (u20 s c).2).2).2 [] (u2i i2).1).1;rw[d0m hs _ rfl i3];simp only[zOb];have i4:=(j0y (m:=1000000000) (k:=1000000000) i3).1;rw[j8n hs _ rfl i4];simp only[zOb];rw[show d5g.v=1000000000 from rfl,show d5g.t=1000000000 from rfl,show d5g.p=1000000000 from rfl,show d5g.r=1000000000 from rfl] at hk ⊢;rw[hk];simp only[zOb];generalize t5p 1000000000 1000000000 s (t5p 1000000000 1000000000 s _).2=z;cases h:z.2.2
 .simp
 .simp
end Go.Proofs.YtkphhjdbdnoekaaGreatDoor.Ab
