import Derived.Test.YtkphhjdbdnoekaaGreatDoorAbRefusedT1
namespace Go.Proofs.YtkphhjdbdnoekaaGreatDoor.Ab
open Go Go.IntKind
set_option linter.all false
abbrev u0j:=Hu Hs×Hu (Int×Hs)
theorem d08:(⟨#[]⟩:Hs)=emp:=rfl
def r89(a b c:Int):Bool:=decide (b<=a)&&decide (a<=c)
theorem s5k(a b c:Int):u03 (a,b,c)=some (r89 a b c):=by
 rw[r9p];unfold s9s r89;simp only[ge_iff_le];cases decide (b<=a)<;>rfl
theorem s6u(a b c:Int):u0q (a,b,c)=some (r89 a b c):=by
 rw[r3q];unfold r3m r89;simp only[ge_iff_le];cases decide (b<=a)<;>rfl
theorem t48{d:u0j}:d.1.length<=c2e.wt d:=by simp only[Ty.wt];omega
theorem t7x{d:u0j}:d.2.length<=c2e.wt d:=by simp only[Ty.wt];omega
theorem d38{d:u0j}{s:Hs}(h:s∈d.1):s.size<=c2e.wt d:=by
 have h1:c2e.wt d=(d.1.length+(d.1.map Ty.str.wt).sum)+(d.2.length+(d.2.map o7z.wt).sum):=rfl;have h2:=o80 (f:=Ty.str.wt) h;have h3:Ty.str.wt s=s.size:=rfl;omega
theorem d3y{d:u0j}{p:Int×Hs}(h:p∈d.2):p.2.size<=c2e.wt d:=by
 have h1:c2e.wt d=(d.1.length+(d.1.map Ty.str.wt).sum)+(d.2.length+(d.2.map o7z.wt).sum):=rfl;have h2:=o80 (f:=o7z.wt) h;have h3:o7z.wt p=0+p.2.size:=rfl;omega
def t57(c:Hu (Int×Hs))(at_:Int):Ht Hs:=c.foldl (fun t p=>if p.1=at_ then some p.2 else t) none
def u0l(d:u0j)(at_:Int):Hs×Bool:=if 0<=at_/\at_<d.1.length then((t57 d.2 at_).getD (rdL Ty.str d.1 at_.toNat),true) else(emp,false)
theorem q6v(c:Hu (Int×Hs))(p:Int×Hs)(at_:Int):t57 (c++ [p]) at_=if p.1=at_ then some p.2 else t57 c at_:=by
 simp[t57,List.foldl_append]
theorem p19{c:Hu (Int×Hs)}{at_:Int}{s:Hs}(h:t57 c at_=some s):∃p∈c,p.2=s:=by
 have key:∀(c:Hu (Int×Hs)) (z:Ht Hs),c.foldl (fun t p=>if p.1=at_ then some p.2 else t) z=some s->z=some s\/ ∃p∈c,p.2=s:=by
  intro c
  induction c with
  |nil=>intro z h;exact .inl h|cons p c ih=>
   intro z h;rw[Bs]at h;rcases ih _ h with h|⟨q,hq,h⟩
   .split at h
    .exact .inr ⟨p,by simp,by simpa using h⟩
    .exact .inl h
   .exact .inr ⟨q,by simp[hq],h⟩
 rcases key c none h with h|h
 .cases h
 .exact h
theorem q67(d:u0j)(at_:Int):(u0l d at_).1.size<=c2e.wt d:=by
 unfold u0l;split
 .rename_i h;cases hl:t57 d.2 at_ with
  |none=>
   simp only[Eo];have hi:at_.toNat<d.1.length:=by omega
   rw[y9a (t:=Ty.str) hi];exact d38 (Ag hi)
  |some s=>
   simp only[Eb];obtain⟨p,hp,rfl⟩:=p19 hl;exact d3y hp
 .show 0<=_;omega
theorem j88(c:Hu (Int×Hs))(at_:Int)(z:Hs):c.foldl (fun t p=>if p.1=at_ then p.2 else t) z=(t57 c at_).getD z:=by
 have key:∀(c:Hu (Int×Hs)) (o:Ht Hs) (z:Hs),c.foldl (fun t p=>if p.1=at_ then p.2 else t) (o.getD z)=(c.foldl (fun t p=>if p.1=at_ then some p.2 else t) o).getD z:=by
  intro c
  induction c with
  |nil=>intro o z;rfl|cons p c ih=>
   intro o z;simp only[Bs];by_cases h:p.1=at_
   .simp only[h,Bl];exact ih (some p.2) z
   .simp only[h,Bk];exact ih o z
 exact key c none z
theorem j7u(d:u0j)(at_:Int)(hd:d.1.length<=u0i):r89 at_ 0 (i64.wrap ((d.1.length:Int) - 1))=decide (0<=at_/\at_<d.1.length):=by
 unfold u0i at hd;rw[y5f (by omega) (by omega)];unfold r89;by_cases h:0<=at_/\at_<d.1.length
 .rw[Bb h,Bb h.1,Bb (by omega)];rfl
 .rw[A7 h];by_cases h0:0<=at_
  .rw[Bb h0,A7 (by omega)];rfl
  .rw[A7 h0];rfl
theorem r0n(d:u0j)(at_:Int)(hd:c2e.wt d<=u0i):t2o (d,at_)=some (u0l d at_):=by
 have h1:d.1.length<=u0i:=A9 t48 hd;have h2:d.2.length<=u0i:=A9 t7x hd;rw[p6d];unfold r6m;simp only[s5k,j7u d at_ h1,zOb];unfold u0l;unfold u0i at h1 h2;by_cases h:0<=at_/\at_<d.1.length
 .have hg:y4v at_ d.1.length=true:=by simp[y4v,h]
  have L:=t14 t3t d.2 (fun t i=>(at_,t,d.2,(d.2.length:Int),i)) (fun t p=>if p.1=at_ then p.2 else t) (fun t=> .inl t) (fun _ _=>True)
   (fun a _=>by rw[r2p];simp only[t3j,u0b,Am,Ah,Aa])
   (fun i hi a _=>⟨trivial,by
    rw[r2p];simp only[t3j,u0b,hi,Ae,Ad,y8h hi,zTn,y9a (t:=o7z) hi];rw[y7x (by omega)];by_cases hp:(d.2[i]).1=at_
    .simp only[hp,Ae,Ad,Bl]
    .simp only[hp,Ah,Aa,Bk]⟩) (rdL Ty.str d.1 at_.toNat) trivial
  simp only[h,and_self,Ae,Ap,Aa,hg,Ad,L,zOb,Bl,j88]
 .simp only[h,Ah,Bh,Ad,Bk];rfl
theorem r0o(d:u0j)(at_:Int)(hd:c2e.wt d<=u0i):u9o (d,at_)=some (u0l d at_):=by
 have h1:d.1.length<=u0i:=A9 t48 hd;have h2:d.2.length<=u0i:=A9 t7x hd;rw[p6p];unfold r6y;simp only[s6u,j7u d at_ h1,zOb];unfold u0l;unfold u0i at h1 h2;by_cases h:0<=at_/\at_<d.1.length
 .have hg:y4v at_ d.1.length=true:=by simp[y4v,h]
  have L:∀n:Nat,n<=d.2.length->t3y (at_,d,(n:Int) - 1)=some (match t57 (d.2.take n) at_ with
   |some s=> .inr (s,true)|none=> .inl (at_,d)):=by
   intro n
   induction n with
   |zero=>
    intro _;rw[r2v];simp only[t3p];rfl
   |succ n ih=>
    intro hn;have hlt:n<d.2.length:=by omega
    rw[r2v];simp only[t3p];have e0:((n+1:Nat):Int) - 1=(n:Int):=by simp
    have e1:decide ((n:Int)>=0)=true:=by simp
    simp only[e0,e1,Ad,y8h hlt,zTn,y9a (t:=o7z) hlt];rw[B9 hlt,q6v];by_cases hp:(d.2[n]).1=at_
    .simp only[hp,Ae,Ad,Bl]
    .simp only[hp,Ah,Aa,Bk];rw[y5f (by omega) (by omega)];exact ih (by omega)
  have L:=L d.2.length (Au _);rw[Cq]at L;have wl:i64.wrap ((d.2.length:Int) - 1)=(d.2.length:Int) - 1:=y5f (by omega) (by omega);simp only[h,and_self,Ae,Ap,Aa,Bl];rw[wl,L];cases t57 d.2 at_ with
  |none=>simp only[zOb,hg,Ad,Eo]|some s=>rfl
 .simp only[h,Ah,Bh,Ad,Bk];rfl
def q8n(d:u0j)(from_:Int):Nat->Nat->Hs->Hs×Bool
 |0,_,acc=>(acc,true)|m+1,i,acc=>if(u0l d (from_+(i:Int))).2 then q8n d from_ m (i+1) (acc++(u0l d (from_+(i:Int))).1) else(emp,false)
def t1h(d:u0j)(from_ n:Int):Hs×Bool:=if 0<=n/\n<=100 then q8n d from_ n.toNat 0 emp else(emp,false)
theorem t0e(s:Hs):(z7w s).length=s.size:=by simp[z7w]
theorem s3o(a b:Hs):z7w (a++b)=z7w a++z7w b:=by simp[z7w,Ft]
theorem s3d(s:Hs):y7s (z7w s)=s:=by
 cases s with
 |mk d=>
  unfold y7s z7w;simp only[List.map_map];have:(d.toList.map ((fun n=>UInt8.ofNat n.toNat) ∘fun b=>(b.toNat:Int)))=d.toList:=by
   conv=>rhs;rw[←List.map_id d.toList]
   apply Ff;intro b _;simp
  rw[this]
theorem r5s{a b c:Int}:r89 a b c=decide (b<=a/\a<=c):=by
 unfold r89;by_cases h:b<=a<;>by_cases g:a<=c<;>simp[h,g]
theorem o1g(d:u0j)(from_ n:Int)(hd:c2e.wt d<=1073741824)(h1: -4611686018427387904<=from_)(h2:from_<=4611686018427387904):s50 (d,from_,n)=some (t1h d from_ n):=by
 have hb:c2e.wt d<=u0i:=by unfold u0i;omega
 rw[p6f];unfold r6o t1h;simp only[s5k,r5s,zOb];by_cases h:0<=n/\n<=100
 .obtain⟨m,rfl⟩:∃m:Nat,n=m:=⟨n.toNat,by omega⟩;have L:=q4l (fun x=>(t3u x).bind fun r=>match r with
   |.inl o=>some (y7s o,true)|.inr z=>some z) m (fun(a:Hs) i=>(from_,(m:Int),d,z7w a,i)) (fun i a=>q8n d from_ (m - i) i a) (fun i a=>a.size<=i*1073741824)
   (fun a _=>by
    rw[r2q];simp only[t3k,u0b,Am,Ah,Aa,zOb,s3d,Dw,q8n])
   (fun i a hi ha=>by
    have e:m - i=(m - (i+1))+1:=by omega
    have hs:=q67 d (from_+(i:Int));rw[r2q];simp only[t3k,u0b,hi,Ae,Ad];rw[y5f (n:=from_+(i:Int)) (by omega) (by omega),r0n d _ hb,e];simp only[zOb,q8n];cases hr:(u0l d (from_+(i:Int))).2 with
    |false=>left;rfl|true=>
     right;refine⟨a++(u0l d (from_+(i:Int))).1,by rw[Af];omega,by simp,?_⟩;simp only[Ap,Aa,t0e,u0v (show a.size+(u0l d (from_+(i:Int))).1.size<=1099511627776 by omega),Ad,s3o];rw[y7x (by omega)]) 0 emp (by omega) (by show 0<=_;omega)
  rw[Bb h,Al h,Ap,Aa];exact L
 .rw[A7 h,Ao h];rfl
theorem o1h(d:u0j)(from_ n:Int)(hd:c2e.wt d<=1073741824)(h1: -4611686018427387904<=from_)(h2:from_<=4611686018427387904):s55 (d,from_,n)=some (t1h d from_ n):=by
 have hb:c2e.wt d<=u0i:=by unfold u0i;omega
 rw[p6r];unfold r60 t1h;simp only[s6u,r5s,zOb];by_cases h:0<=n/\n<=100
 .obtain⟨m,rfl⟩:∃m:Nat,n=m:=⟨n.toNat,by omega⟩;have L:=q4l (fun x=>(t3z x).bind fun r=>match r with
   |.inl o=>some (o,true)|.inr z=>some z) m (fun(a:Hs) i=>(from_,(m:Int),d,a,i)) (fun i a=>q8n d from_ (m - i) i a) (fun i a=>a.size<=i*1073741824/\(i=0\/0<=from_))
   (fun a _=>by
    rw[r2w];simp only[t3q,u0b,Am,Ah,Aa,zOb,Dw,q8n])
   (fun i a hi ha=>by
    have e:m - i=(m - (i+1))+1:=by omega
    have hs:=q67 d (from_+(i:Int));rw[r2w];simp only[t3q,u0b,hi,Ae,Ad];rw[e];simp only[q8n];by_cases hf:from_<0\/from_ >(d.1.length:Int)
    .left;have hno:(u0l d (from_+(i:Int))).2=false:=by
      unfold u0l;rw[Ao (by omega)]
     rw[hno];by_cases hf1:from_<0
     .rw[Bb hf1];rfl
     .have hf2:from_ >(d.1.length:Int):=by omega
      rw[A7 hf1,Bb hf2];rfl
    .have hf1: ¬from_<0:=by omega
     have hf2: ¬from_ >(d.1.length:Int):=by omega
     rw[A7 hf1,A7 hf2];simp only[Aa,zOb];rw[y5f (n:=from_+(i:Int)) (by omega) (by omega),r0o d _ hb];simp only[zOb];cases hr:(u0l d (from_+(i:Int))).2 with
     |false=>left;rfl|true=>
      right;refine⟨a++(u0l d (from_+(i:Int))).1,⟨by rw[Af];omega,by omega⟩,by simp,?_⟩;simp only[Ap,Aa,Bb (show a.size+(u0l d (from_+(i:Int))).1.size<=140737488355328 by omega),Ad];rw[y7x (by omega)]) 0 emp (by omega) ⟨by show 0<=_;omega, .inl rfl⟩
  rw[Bb h,Al h,Ap,Aa];exact L
 .rw[A7 h,Ao h];rfl
def s9k(n:Nat):Hu Int:=if h:n<128 then[(n:Int)] else((n % 128+128:Nat):Int)::s9k (n / 128)
termination_by n
decreasing_by omega
theorem q7h{n:Nat}(h:n<128):s9k n= [(n:Int)] :=by rw[s9k,dif_pos h]
theorem p65{n:Nat}(h: ¬n<128):s9k n=((n % 128+128:Nat):Int)::s9k (n / 128):=by rw[s9k,dif_neg h]
theorem j8f(n:Nat):(s9k n).length<=n+1:=by
 induction n using Nat.strongRecOn with
 |_ n ih=>
  by_cases h:n<128
  .rw[q7h h];simp
  .rw[p65 h];have:=ih (n / 128) (by omega);simp only[Bc];omega
theorem j8g{S:Type}{W:Int×Hu Int->Ht ((Int×Hu Int)⊕S)}
 (hW:∀x,W x=(bif (decide (x.1 >(127:Int))) then(bif (Nat.ble (x.2.length+([(u8.wrap (i64.wrap ((Int.tmod x.1 (128:Int))+(128:Int))))] :Hu Int).length) z7z) then
  (W ((i64.wrap (Int.tdiv x.1 (128:Int))),(x.2++([(u8.wrap (i64.wrap ((Int.tmod x.1 (128:Int))+(128:Int))))] :Hu Int)))) else none) else(some (.inl x)))):
 ∀(n:Nat) (acc:Hu Int),acc.length+n<=1000000000000-> ∃m:Nat,∃acc' :Hu Int,W ((n:Int),acc)=some (.inl ((m:Int),acc'))/\m<128/\acc' ++ [(m:Int)] =acc++s9k n/\acc'.length<=acc.length+n:=by
 intro n
 induction n using Nat.strongRecOn with
 |_ n ih=>
  intro acc hn;rw[hW];by_cases h:n<128
  .have:decide ((n:Int) >(127:Int))=false:=by simp;omega
   simp only[this,Aa];exact⟨n,acc,rfl,h,by rw[q7h h],by omega⟩
  .have h1:decide ((n:Int) >(127:Int))=true:=by simp;omega
   have h2:Int.tmod (n:Int) (128:Int)=((n % 128:Nat):Int):=j47 n 128;have h3:Int.tdiv (n:Int) (128:Int)=((n / 128:Nat):Int):=d4d n 128;have h4:u8.wrap (i64.wrap (((n % 128:Nat):Int)+(128:Int)))=((n % 128+128:Nat):Int):=by
    rw[y5f (by omega) (by omega)];have:((n % 128:Nat):Int)+128=((n % 128+128:Nat):Int):=by simp
    rw[this,d2h (by omega)]
   simp only[h1,h2,h3,h4,Ad,Aw,u0v (show acc.length+1<=1099511627776 by omega)];rw[y8q (by omega)];obtain⟨m,acc',e1,e2,e3,e4⟩:=ih (n / 128) (by omega) (acc++ [((n % 128+128:Nat):Int)]) (by simp;omega);refine⟨m,acc',e1,e2,?_,?_⟩
   .rw[e3,p65 h,Bi];rfl
   .have:(acc++ [((n % 128+128:Nat):Int)]).length=acc.length+1:=by simp
    omega
theorem o38(n:Nat)(hn:n<=100000000000):u2c (n:Int)=some (y7s (s9k n)):=by
 rw[j0w];unfold p3s;obtain⟨m,acc',e1,e2,e3,e4⟩:=j8g (W:=s4l) (fun x=>o46 x) n [] (by simp;omega);have e4:acc'.length<=n:=by simpa using e4
 simp only[e1,zOb,Aw,u0v (show acc'.length+1<=1099511627776 by omega),Ad];rw[d2h (by omega),e3];rfl
theorem q4k(n:Int):t5v n=some (if 0<=n/\n<=1000000000 then(y7s (s9k n.toNat),true) else(emp,false)):=by
 rw[o54];unfold q9f;simp only[s5k,r5s,zOb];by_cases h:0<=n/\n<=1000000000
 .obtain⟨m,rfl⟩:∃m:Nat,n=m:=⟨n.toNat,by omega⟩;obtain⟨k,acc',e1,e2,e3,e4⟩:=j8g (W:=s2g) (fun x=>o0o x) m [] (by simp;omega);have e4:acc'.length<=m:=by simpa using e4
  rw[Bb h,Al h];simp only[e1,zOb,Ap,Aa,Aw,u0v (show acc'.length+1<=1099511627776 by omega),Ad];rw[d2h (by omega),e3];rfl
 .rw[A7 h,Ao h];rfl
def q0g:Nat->Nat->Nat->Hu UInt8->Ht (Nat×Nat)
 |0,_,_,_=>none|_+1,_,_, [] =>none|f+1,i,n,b::l=>
  if b.toNat<128 then(if n+b.toNat % 128*128^i<=1000000000/\(s9k (n+b.toNat % 128*128^i)).length=i+1 then some (n+b.toNat % 128*128^i,i+1) else none)
  else q0g f (i+1) (n+b.toNat % 128*128^i) l
def p5g(at_:Int)(r:Ht (Nat×Nat)):Int×Int×Bool:=match r with
 |some (n,k)=>((n:Int),at_+(k:Int),true)|none=>(0,0,false)
def u0w(t:Hs)(at_:Int):Int×Int×Bool:=if 0<=at_/\at_<=t.size then p5g at_ (q0g 5 0 0 (t.data.toList.drop at_.toNat)) else(0,0,false)
theorem j1r:∀(f i n:Nat) (l:Hu UInt8) (v k:Nat),q0g f i n l=some (v,k)->v<=1000000000/\k<=i+l.length/\i<k
 |0,_,_,_,_,_,h=>by cases h
 |_+1,_,_, [],_,_,h=>by cases h
 |f+1,i,n,b::l,v,k,h=>by
  simp only[q0g]at h;split at h
  .split at h
   .rename_i h2;simp only[Ac,Ak]at h;obtain⟨rfl,rfl⟩:=h;exact⟨h2.1,by simp,by omega⟩
   .cases h
  .have:=j1r f (i+1) _ l v k h;simp only[Bc];omega
theorem s3t{t:Hs}{at_:Int}(h:(u0w t at_).2.2=true):0<=(u0w t at_).1/\(u0w t at_).1<=1000000000/\0<=at_/\at_<(u0w t at_).2.1/\(u0w t at_).2.1<=t.size:=by
 unfold u0w at h⊢;split at h
 .rename_i hc;rw[Al hc];cases hv:q0g 5 0 0 (t.data.toList.drop at_.toNat) with
  |none=>rw[hv]at h;cases h|some r=>
   obtain⟨v,k⟩:=r;have:=j1r 5 0 0 _ v k hv;have hl:(t.data.toList.drop at_.toNat).length=t.size - at_.toNat:=by simp
   simp only[p5g];omega
 .cases h
theorem d9c(i:Nat)(h:i<5):(2:Int)^(min (i64.wrap (7*(i:Int))).toNat i64.bits)=((128^i:Nat):Int):=by
 rcases i with _|_|_|_|_|i
 all_goals first|rfl|omega
theorem d47(i:Nat)(h:i<=5):128^i<=34359738368:=by
 rcases i with _|_|_|_|_|_|i
 all_goals first|decide|omega
theorem p7c(t:Hs)(at_:Int)(ht:t.size<=u0i):s60 (t,at_)=some (u0w t at_):=by
 unfold u0i at ht;rw[o5x];unfold q88 u0w;simp only[s5k,r5s,zOb];by_cases h:0<=at_/\at_<=t.size
 .obtain⟨p,rfl⟩:∃p:Nat,at_=p:=⟨at_.toNat,by omega⟩;have hp:p<=t.size:=by omega
  rw[Bb h,Al h];have L:∀(f i n:Nat),i+f=5->n<128^i->p+i<=t.size->((s2c (t,(p:Int),(n:Int),(i:Int))).bind fun r=>match r with
   |.inl o=>some ((0:Int),(0:Int),false)|.inr z=>some z)=some (p5g p (q0g f i n (t.data.toList.drop (p+i)))):=by
   intro f
   induction f with
   |zero=>
    intro i n hi hn hpi;have:i=5:=by omega
    subst this;rw[q28];simp only[s1h];rfl
   |succ f ih=>
    intro i n hi hn hpi;have hi5:i<5:=by omega
    have hpw:=d47 i (by omega);rw[q28];simp only[s1h];have w1:i64.wrap ((p:Int)+(i:Int))=((p+i:Nat):Int):=by rw[y5f (by omega) (by omega)];simp
    have e1:decide ((i:Int)<(5:Int))=true:=by simp;omega
    by_cases hlt:p+i<t.size
    .have hd:t.data.toList.drop (p+i)=(t.data.toList[p+i]'(by simpa using hlt))::t.data.toList.drop (p+i+1):=Ce (by simpa using hlt);have hb:(t.data.toList[p+i]'(by simpa using hlt)).toNat<256:=Fw _;rw[hd];generalize hc:(t.data.toList[p+i]'(by simpa using hlt))=c at hb;have e2:decide (((p+i:Nat):Int)<(t.size:Int))=true:=by simp;omega
     have e3:decide (0<=i64.wrap (7*(i:Int)))=true:=by rw[y5f (by omega) (by omega)];simp;omega
     have t2:Int.tmod ((c.toNat:Nat):Int) (128:Int)=((c.toNat % 128:Nat):Int):=j47 _ 128;have hm:c.toNat % 128*128^i<=127*34359738368:=Ei (by omega) hpw;have w2:i64.wrap (((c.toNat % 128:Nat):Int)*((128^i:Nat):Int))=((c.toNat % 128*128^i:Nat):Int):=by
      rw[←Int.natCast_mul];exact y8q (by omega)
     have w3:i64.wrap ((n:Int)+((c.toNat % 128*128^i:Nat):Int))=((n+c.toNat % 128*128^i:Nat):Int):=by
      rw[←Int.natCast_add];exact y8q (by omega)
     simp only[e1,Ad,zOb,w1,e2,y8h hlt,e3,zTn,j7n hlt,hc,y8q (show c.toNat<=4611686018427387904 by omega),t2,d9c i hi5,w2,w3,q0g];by_cases hc1:c.toNat<128
     .have e4:decide (((c.toNat:Nat):Int)<(128:Int))=true:=by simp;omega
      simp only[e4,Ad,Al hc1,q4k,zOb];have wi:i64.wrap ((i:Int)+1)=((i+1:Nat):Int):=y7x (by omega);by_cases hv:n+c.toNat % 128*128^i<=1000000000
      .rw[Al (show(0:Int)<=((n+c.toNat % 128*128^i:Nat):Int)/\((n+c.toNat % 128*128^i:Nat):Int)<=1000000000 by omega)];simp only[Ap,Aa,zTn,u6c,wi,zOb];by_cases hl:(s9k (n+c.toNat % 128*128^i)).length=i+1
       .rw[Al ⟨hv,hl⟩,hl];simp only[Ae,Ap,Aa,zOb,p5g];rw[y5f (by omega) (by omega)];simp[Int.add_assoc]
       .rw[Ao (fun hh=>hl hh.2)];rw[A7 (show ¬(((s9k (n+c.toNat % 128*128^i)).length:Nat):Int)=((i+1:Nat):Int) by omega)];rfl
      .rw[Ao (show ¬((0:Int)<=((n+c.toNat % 128*128^i:Nat):Int)/\((n+c.toNat % 128*128^i:Nat):Int)<=1000000000) by omega),Ao (fun hh=>hv hh.1)];rfl
     .have e4:decide (((c.toNat:Nat):Int)<(128:Int))=false:=by simp;omega
      simp only[e4,Aa,Ao hc1];rw[y7x (by omega)];have:=ih (i+1) (n+c.toNat % 128*128^i) (by omega) (by
       have:128^(i+1)=128^i*128:=Gr 128 i;have h2:c.toNat % 128*128^i<=127*128^i:=Ei (by omega) (Au _);omega) (by omega)
      exact this
    .have e2:decide (((p+i:Nat):Int)<(t.size:Int))=false:=by simp;omega
     have hd:t.data.toList.drop (p+i)= [] :=Dp (by simp;omega);rw[hd];simp only[e1,Ad,w1,e2,zOb,Aa,q0g];rfl
  exact L 5 0 0 rfl (by decide) (by omega)
 .rw[A7 h,Ao h];rfl
def o8x:Hu UInt8->Nat
 |[] =>0|b::l=>b.toNat % 128+128*o8x l
theorem d2a(l:Hu UInt8)(b:UInt8):o8x (l++ [b])=o8x l+b.toNat % 128*128^l.length:=by
 induction l with
 |nil=>simp[o8x]|cons x l ih=>
  simp only[Ef,o8x,ih,Bc,Gr];rw[Nat.mul_add];have:128*(b.toNat % 128*128^l.length)=b.toNat % 128*(128^l.length*128):=by
   rw[Fk 128,Nat.mul_assoc]
  omega
theorem d6w(l:Hu UInt8)(b:UInt8)(hl:∀x∈l,¬x.toNat<128)(hb:b.toNat<128)(h:(s9k (o8x (l++ [b]))).length=l.length+1):s9k (o8x (l++ [b]))=(l++ [b]).map fun x=>(x.toNat:Int):=by
 induction l with
 |nil=>
  have:o8x ([] ++ [b])=b.toNat:=by simp[o8x];omega
  rw[this,q7h hb];rfl
 |cons x l ih=>
  have hx:x.toNat<256:=Fw x;have hx2:=hl x (by simp);simp only[Ef,o8x]at h⊢;by_cases hs:x.toNat % 128+128*o8x (l++ [b])<128
  .rw[q7h hs]at h;simp at h
  .rw[p65 hs]at h⊢;have e1:(x.toNat % 128+128*o8x (l++ [b])) / 128=o8x (l++ [b]):=by omega
   have e2:(x.toNat % 128+128*o8x (l++ [b])) % 128+128=x.toNat:=by omega
   rw[e1]at h⊢;rw[e2];simp only[Bc,Nat.add_right_cancel_iff]at h;rw[ih (fun y hy=>hl y (by simp[hy])) h];rfl
theorem d4c(l:Hu UInt8):y7s (l.map fun x=>(x.toNat:Int))=⟨l.toArray⟩:=by
 unfold y7s;simp only[List.map_map];have:(l.map ((fun n=>UInt8.ofNat n.toNat) ∘fun b=>(b.toNat:Int)))=l:=by
  conv=>rhs;rw[←List.map_id l]
  apply Ff;intro b _;simp
 rw[this]
theorem p8f(t:Hs)(a b:Nat)(h:b<=t.size):t.extract a b=⟨((t.data.toList.drop a).take (b - a)).toArray⟩:=by
 apply Gf;simp only[ByteArray.data_extract];apply Fj;simp[F7]
theorem d82{q:Nat}(h:q<=1000000000):decide ((q:Int) >(1000000000:Int))=false:=by simp;omega
theorem d8z{q:Nat}(h: ¬q<=1000000000):decide ((q:Int) >(1000000000:Int))=true:=by simp;omega
theorem p7d(t:Hs)(at_:Int)(ht:t.size<=u0i):s67 (t,at_)=some (u0w t at_):=by
 unfold u0i at ht;rw[o6m];unfold q9v u0w;simp only[s6u,r5s,zOb];by_cases h:0<=at_/\at_<=t.size
 .obtain⟨p,rfl⟩:∃p:Nat,at_=p:=⟨at_.toNat,by omega⟩;have hp:p<=t.size:=by omega
  rw[Bb h,Al h]
  have L:∀(f i:Nat),i+f=5->p+i<=t.size->(∀x∈(t.data.toList.drop p).take i,¬x.toNat<128)->o8x ((t.data.toList.drop p).take i)<128^i->
   ((s2j (t,(p:Int),((o8x ((t.data.toList.drop p).take i):Nat):Int),((128^i:Nat):Int),((p+i:Nat):Int))).bind fun r=>match r with
   |.inl o=>some ((0:Int),(0:Int),false)|.inr z=>some z)=some (p5g p (q0g f i (o8x ((t.data.toList.drop p).take i)) (t.data.toList.drop (p+i)))):=by
   intro f
   induction f with
   |zero=>
    intro i hi hpi hall hn;have:i=5:=by omega
    subst this;rw[q3r];simp only[s11];have e1:decide (((p+5:Nat):Int)<i64.wrap ((p:Int)+5))=false:=by rw[y5f (by omega) (by omega)];simp
    rw[e1];cases decide (((p+5:Nat):Int)<(t.size:Int))<;>rfl
   |succ f ih=>
    intro i hi hpi hall hn;have hi5:i<5:=by omega
    have hpw:=d47 i (by omega);rw[q3r];simp only[s11];have e1:decide (((p+i:Nat):Int)<i64.wrap ((p:Int)+5))=true:=by rw[y5f (by omega) (by omega)];simp;omega
    by_cases hlt:p+i<t.size
    .have hd:t.data.toList.drop (p+i)=(t.data.toList[p+i]'(by simpa using hlt))::t.data.toList.drop (p+i+1):=Ce (by simpa using hlt);have hb:(t.data.toList[p+i]'(by simpa using hlt)).toNat<256:=Fw _;have htk:(t.data.toList.drop p).take (i+1)=(t.data.toList.drop p).take i++ [t.data.toList[p+i]'(by simpa using hlt)] :=by
      rw[B9 (by simp;omega)];simp
     have htl:((t.data.toList.drop p).take i).length=i:=by simp;omega
     have hvs:=d2a ((t.data.toList.drop p).take i) (t.data.toList[p+i]'(by simpa using hlt));rw[htl]at hvs;rw[hd];generalize hc:(t.data.toList[p+i]'(by simpa using hlt))=c at hb htk hvs;generalize hn' :o8x ((t.data.toList.drop p).take i)=n at hn hvs⊢;have e2:decide (((p+i:Nat):Int)<(t.size:Int))=true:=by simp;omega
     have t2:Int.tmod ((c.toNat:Nat):Int) (128:Int)=((c.toNat % 128:Nat):Int):=j47 _ 128;have hm:c.toNat % 128*128^i<=127*34359738368:=Ei (by omega) hpw;have w2:i64.wrap (((c.toNat % 128:Nat):Int)*((128^i:Nat):Int))=((c.toNat % 128*128^i:Nat):Int):=by
      rw[←Int.natCast_mul];exact y8q (by omega)
     have w3:i64.wrap ((n:Int)+((c.toNat % 128*128^i:Nat):Int))=((n+c.toNat % 128*128^i:Nat):Int):=by
      rw[←Int.natCast_add];exact y8q (by omega)
     have wp:i64.wrap (((p+i:Nat):Int)+1)=((p+i+1:Nat):Int):=y7x (by omega);have ws:i64.wrap (((128^i:Nat):Int)*128)=((128^(i+1):Nat):Int):=by
      rw[Gr,Int.natCast_mul];exact y5f (by omega) (by omega)
     simp only[e1,e2,Ad,zOb,y8h hlt,zTn,j7n hlt,hc,y8q (show c.toNat<=4611686018427387904 by omega),t2,w2,w3,wp,ws,q0g];by_cases hc1:c.toNat<128
     .have e4:decide (((c.toNat:Nat):Int)<(128:Int))=true:=by simp;omega
      simp only[e4,Ad,Al hc1];by_cases hv:n+c.toNat % 128*128^i<=1000000000
      .have e5:decide (((n+c.toNat % 128*128^i:Nat):Int) >(1000000000:Int))=false:=d82 hv;have e6:(decide (0<=(p:Int))&&decide ((p:Int)<=((p+i+1:Nat):Int))&&decide (((p+i+1:Nat):Int)<=(t.size:Int)))=true:=by simp;omega
       simp only[e5,Aa,o38 _ (show n+c.toNat % 128*128^i<=100000000000 by omega),zOb,e6,Ad];have hx:t.extract p (p+i+1)=⟨((t.data.toList.drop p).take (i+1)).toArray⟩:=by
        rw[p8f t p (p+i+1) (by omega)];have:p+i+1 - p=i+1:=by omega
        rw[this]
       rw[hx];have hv' :n+c.toNat % 128*128^i=o8x ((t.data.toList.drop p).take i++ [c]):=hvs.symm;by_cases hl:(s9k (n+c.toNat % 128*128^i)).length=i+1
       .rw[Al ⟨hv,hl⟩];have key:s9k (n+c.toNat % 128*128^i)=((t.data.toList.drop p).take (i+1)).map fun x=>(x.toNat:Int):=by
         rw[hv',htk];exact d6w _ c hall hc1 (by rw[←hv',hl,htl])
        rw[key,d4c,y6w];simp only[Ap,Aa,zOb,p5g];simp[Int.add_assoc]
       .rw[Ao (fun hh=>hl hh.2)];have hne:z7q (y7s (s9k (n+c.toNat % 128*128^i))) ⟨((t.data.toList.drop p).take (i+1)).toArray⟩=false:=by
         rw[←Ey,y7r];intro hh;have:=Dj ByteArray.size hh;rw[u6c]at this;apply hl;rw[this];show((t.data.toList.drop p).take (i+1)).toArray.size=_;simp;omega
        rw[hne];rfl
      .have e5:decide (((n+c.toNat % 128*128^i:Nat):Int) >(1000000000:Int))=true:=d8z hv;rw[Ao (fun hh=>hv hh.1),e5];rfl
     .have e4:decide (((c.toNat:Nat):Int)<(128:Int))=false:=by simp;omega
      simp only[e4,Aa,Ao hc1];have:=ih (i+1) (by omega) (by omega) (by
       rw[htk];intro x hx;rcases Ay.mp hx with hx|hx
       .exact hall x hx
       .simp at hx;rw[hx];exact hc1) (by
       rw[htk,hvs];have:128^(i+1)=128^i*128:=Gr 128 i;have h2:c.toNat % 128*128^i<=127*128^i:=Ei (by omega) (Au _);omega)
      rw[htk,hvs]at this;exact this
    .have e2:decide (((p+i:Nat):Int)<(t.size:Int))=false:=by simp;omega
     have hd:t.data.toList.drop (p+i)= [] :=Dp (by simp;omega);rw[hd];simp only[e2,zOb,Aa,q0g];rfl
  exact L 5 0 rfl (by omega) (by simp) (by simp[o8x])
 .rw[A7 h,Ao h];rfl
def u0p(t:Hs)(at_:Int):Hs×Int×Bool:=
 if(u0w t at_).2.2=true/\(u0w t at_).1<=20000/\(u0w t at_).1<=(t.size:Int) - (u0w t at_).2.1 then
  (t.extract (u0w t at_).2.1.toNat ((u0w t at_).2.1+(u0w t at_).1).toNat,(u0w t at_).2.1+(u0w t at_).1,true)
 else(emp,0,false)
theorem q68{t:Hs}{at_:Int}(h:(u0p t at_).2.2=true):0<=(u0p t at_).2.1/\(u0p t at_).2.1<=t.size:=by
 unfold u0p at h⊢;split at h
 .rename_i hc;rw[Al hc];have:=s3t hc.1;simp only;omega
 .cases h
theorem o8t(t:Hs)(at_:Int)(ht:t.size<=u0i):
 (((bif (!(u0w t at_).2.2) then(some true) else(bif (decide ((u0w t at_).1 >(20000:Int))) then(some true) else(some (decide ((u0w t at_).1 >(i64.wrap ((t.size:Int) - (u0w t at_).2.1))))))):Ht Bool).bind fun j2=>
  (bif j2 then(some ((⟨#[]⟩:Hs),((0:Int),false))) else(bif (decide (0<=(u0w t at_).2.1)&&decide ((u0w t at_).2.1<=(i64.wrap ((u0w t at_).2.1+(u0w t at_).1)))&&decide ((i64.wrap ((u0w t at_).2.1+(u0w t at_).1))<=(t.size:Int))) then
   (some ((t.extract ((u0w t at_).2.1).toNat ((i64.wrap ((u0w t at_).2.1+(u0w t at_).1))).toNat),((i64.wrap ((u0w t at_).2.1+(u0w t at_).1)),true))) else none)))=some (u0p t at_):=by
 unfold u0i at ht;unfold u0p;cases ho:(u0w t at_).2.2 with
 |false=>rfl|true=>
  have hk:=s3t ho;rw[y5f (n:=(t.size:Int) - (u0w t at_).2.1) (by omega) (by omega),y5f (n:=(u0w t at_).2.1+(u0w t at_).1) (by omega) (by omega)];by_cases h1:(u0w t at_).1 >20000
  .rw[Ao (by omega),Bb h1];rfl
  .rw[A7 h1];by_cases h2:(u0w t at_).1 >(t.size:Int) - (u0w t at_).2.1
   .rw[Ao (by omega),Bb h2];rfl
   .rw[Al ⟨rfl,by omega,by omega⟩,A7 h2];simp only[Ap,Aa,zOb];rw[Bb (show 0<=(u0w t at_).2.1 by omega),Bb (show(u0w t at_).2.1<=(u0w t at_).2.1+(u0w t at_).1 by omega),Bb (show(u0w t at_).2.1+(u0w t at_).1<=(t.size:Int) by omega)];rfl
theorem q8w(t:Hs)(at_:Int)(ht:t.size<=u0i):s20 (t,at_)=some (u0p t at_):=by
 rw[o0c];unfold q1l;simp only[p7d t at_ ht,zOb];exact o8t t at_ ht
theorem q8v(t:Hs)(at_:Int)(ht:t.size<=u0i):s2u (t,at_)=some (u0p t at_):=by
 rw[p9i];unfold q0t;simp only[p7c t at_ ht,zOb];exact o8t t at_ ht
def p87(t:Hs):Int:=((t.data.toList.getD 0 0).toNat:Int)
theorem o9r(t:Hs):0<=p87 t/\p87 t<256:=by
 unfold p87;have:(t.data.toList.getD 0 0).toNat<256:=Fw _;omega
def u48(d:u0j)(s:Int):Int:=p87 (u0l d s).1
theorem o8l{d:u0j}{s:Int}(h:(u0l d s).2=false):(u0l d s).1=emp:=by
 unfold u0l at h⊢;split at h
 .cases h
 .rename_i hc;rw[Ao hc]
theorem o8a(r:Hs×Bool)(h:r.2=false->r.1=emp):
 (((bif (!r.2) then(some true) else(some (z7q r.1 (⟨#[]⟩:Hs)))):Ht Bool).bind fun j2=>(bif j2 then(some (0:Int)) else(bif (y4v (0:Int) r.1.size) then(some (i64.wrap ((r.1.data.toList.getD ((0:Int)).toNat 0).toNat:Int))) else none)))=some (p87 r.1):=by
 obtain⟨t,o⟩:=r;cases o with
 |false=>
  have:t=emp:=h rfl;subst this;rfl
 |true=>
  simp only[Ap,Aa,zOb];by_cases he:t=emp
  .subst he;have:z7q emp (⟨#[]⟩:Hs)=true:=y6w emp;simp only[this,Ad];rfl
  .have h1:z7q t (⟨#[]⟩:Hs)=false:=by
    rw[←Ey,y7r];exact he
   have h2:t.size≠0:=by
    intro hz;apply he;apply Gf;apply Fi;exact hz
   have h3:y4v (0:Int) t.size=true:=by simp[y4v];omega
   have hb:(t.data.toList.getD 0 0).toNat<256:=Fw _;simp only[h1,Aa,h3,Ad,Ho];rw[y8q (by omega)];rfl
theorem r5r(d:u0j)(s:Int)(hd:c2e.wt d<=u0i):t5m (d,s)=some (u48 d s):=by
 rw[p9u];unfold q04;simp only[r0n d s hd,zOb];exact o8a _ (fun h=>o8l h)
theorem q6e(d:u0j)(s:Int)(hd:c2e.wt d<=u0i):s07 (d,s)=some (u48 d s):=by
 rw[o6y];unfold q98;simp only[r0o d s hd,zOb];exact o8a _ (fun h=>o8l h)
def u0n(d:u0j):Int:=Int.tmod (u48 d 0) 2
theorem t32(d:u0j):u0n d=0\/u0n d=1:=by
 have:=o9r (u0l d 0).1;unfold u0n u48;have e:=Int.tmod_eq_emod_of_nonneg (b:=2) this.1;rw[e];omega
theorem s9p(d:u0j)(hd:c2e.wt d<=u0i):t2m d=some (u0n d):=by
 rw[o2c];unfold q4q;simp only[r5r d 0 hd,zOb];rfl
theorem s9q(d:u0j)(hd:c2e.wt d<=u0i):t2t d=some (u0n d):=by
 rw[o26];unfold q5h;simp only[q6e d 0 hd,zOb];rfl
def j07(a:Int):Bool:=decide (a=0) || decide (a=1)
def u0f(a:Int):Int:=if j07 a then 1+a*48 else 0
theorem d3g{a:Int}:j07 a=true↔a=0\/a=1:=by simp[j07]
theorem s3n(a:Int):0<=u0f a/\u0f a<=49:=by
 unfold u0f;split
 .rename_i h;have:=d3g.mp h;omega
 .omega
theorem p16(a:Int):s45 a=some (j07 a):=by
 rw[j0d];unfold p29 j07;cases decide (a=0)<;>rfl
theorem q74(a:Int):u0q (a,0,1)=some (j07 a):=by
 rw[s6u,r5s];congr 1;rw[Cd,d3g,decide_eq_true_iff];omega
theorem s6a(a:Int):t0f a=some (u0f a):=by
 rw[p89];unfold q0l u0f;simp only[p16,zOb];cases h:j07 a with
 |false=>rfl|true=>
  have:=d3g.mp h;simp only[Ap,Aa,Bl];rw[y5f (n:=a*48) (by omega) (by omega),y5f (by omega) (by omega)]
theorem s6b(a:Int):t0k a=some (u0f a):=by
 rw[p94];unfold q1d u0f;simp only[q74,zOb];cases h:j07 a with
 |false=>rfl|true=>
  have:=d3g.mp h;simp only[Ap,Aa,Bl];rw[y5f (n:=a*48) (by omega) (by omega),y5f (by omega) (by omega)]
def u0z(d:u0j)(a:Int):Int:=if j07 a then u48 d (u0f a) else 0
theorem r68(d:u0j)(a:Int):0<=u0z d a/\u0z d a<256:=by
 unfold u0z;split
 .exact o9r _
 .omega
theorem s7j(d:u0j)(a:Int)(hd:c2e.wt d<=u0i):t5u (d,a)=some (u0z d a):=by
 rw[o5o];unfold q8z u0z;simp only[p16,s6a,r5r d _ hd,zOb];cases j07 a<;>rfl
theorem s7k(d:u0j)(a:Int)(hd:c2e.wt d<=u0i):t5w (d,a)=some (u0z d a):=by
 rw[o6d];unfold q9m u0z;simp only[q74,s6b,q6e d _ hd,zOb];cases j07 a<;>rfl
def u9b(t:Hs):Nat->Int->Hu Hs->Hu Hs×Int×Bool
 |0,at_,acc=>(acc,at_,true)|m+1,at_,acc=>if(u0p t at_).2.2&& !z7q (u0p t at_).1 emp then u9b t m (u0p t at_).2.1 (acc++ [(u0p t at_).1]) else([],0,false)
def u0c(d:u0j)(a:Int):Hu Hs×Int×Bool:=
 if j07 a&&(t1h d (u0f a+1) 47).2 then u9b (t1h d (u0f a+1) 47).1 (u0z d a).toNat 0 [] else([],0,false)
theorem o8s(d:u0j)(from_:Int):∀(m i:Nat) (acc:Hs),(q8n d from_ m i acc).1.size<=acc.size+m*c2e.wt d
 |0,i,acc=>by simp[q8n]
 |m+1,i,acc=>by
  unfold q8n;split
  .have h1:=o8s d from_ m (i+1) (acc++(u0l d (from_+(i:Int))).1);have h2:=q67 d (from_+(i:Int));rw[Af]at h1;have:(m+1)*c2e.wt d=m*c2e.wt d+c2e.wt d:=C7 _ _;omega
  .show 0<=_;omega
theorem q7f(d:u0j)(from_ n:Int):(t1h d from_ n).1.size<=100*c2e.wt d:=by
 unfold t1h;split
 .have h:=o8s d from_ n.toNat 0 emp;have h2:emp.size=0:=rfl;have h3:n.toNat*c2e.wt d<=100*c2e.wt d:=Ei (by omega) (Au _);omega
 .show 0<=_;omega
theorem r9f(d:u0j)(a:Int)(hd:c2e.wt d<=1073741824):t2n (d,a)=some (u0c d a):=by
 have hb:c2e.wt d<=u0i:=by unfold u0i;omega
 have hf:=s3n a;have hz:(t1h d (u0f a+1) 47).1.size<=u0i:=by have:=q7f d (u0f a+1) 47;unfold u0i;omega
 have hc:=r68 d a;rw[o2n];unfold q41 u0c;simp only[s6a,zOb];rw[y5f (n:=u0f a+1) (by omega) (by omega)];simp only[o1g d (u0f a+1) 47 hd (by omega) (by omega),p16,zOb];generalize t1h d (u0f a+1) 47=s at hz;cases hs:s.2 with
 |false=>cases j07 a<;>rfl
 |true=>
  cases ha:j07 a with
  |false=>rfl|true=>
   have L:=q4l (fun x=>(t9k x).bind fun r=>match r with
    |.inl o=>some (o.1,o.2,true)|.inr z=>some z) (u0z d a).toNat (fun(p:Hu Hs×Int) i=>(a,d,s.1,p.1,p.2,i)) (fun i p=>u9b s.1 ((u0z d a).toNat - i) p.2 p.1) (fun i p=>p.1.length<=i)
    (fun p _=>by
     rw[r8k];simp only[t8s,s7j d a hb,zOb];rw[A7 (by omega)];simp only[Aa,zOb,Dw,u9b])
    (fun i p hi hp=>by
     have e:(u0z d a).toNat - i=((u0z d a).toNat - (i+1))+1:=by omega
     rw[r8k];simp only[t8s,s7j d a hb,zOb];rw[Bb (by omega),e];simp only[Ad,q8v s.1 p.2 hz,zOb,u9b,d08];cases hr:(u0p s.1 p.2).2.2 with
     |false=>left;rfl|true=>
      cases hq:z7q (u0p s.1 p.2).1 emp with
      |true=>left;rfl|false=>
       right;refine⟨(p.1++ [(u0p s.1 p.2).1],(u0p s.1 p.2).2.1),by simp;omega,by simp,?_⟩;simp only[Ap,Aa,zOb,Aw,u0v (show p.1.length+1<=1099511627776 by omega),Ad];rw[y7x (by omega)]) 0 ([],0) (by omega) (by simp)
   simp only[Ap,Aa,zOb,Dt,Bl];exact L
theorem r9g(d:u0j)(a:Int)(hd:c2e.wt d<=1073741824):t2u (d,a)=some (u0c d a):=by
 have hb:c2e.wt d<=u0i:=by unfold u0i;omega
 have hf:=s3n a;have hz:(t1h d (u0f a+1) 47).1.size<=u0i:=by have:=q7f d (u0f a+1) 47;unfold u0i;omega
 have hc:=r68 d a;rw[o3e];unfold q5o u0c;simp only[q74,s6b,zOb];rw[y5f (n:=u0f a+1) (by omega) (by omega)];simp only[o1h d (u0f a+1) 47 hd (by omega) (by omega),zOb];generalize t1h d (u0f a+1) 47=s at hz;cases hs:s.2 with
 |false=>cases j07 a<;>rfl
 |true=>
  cases ha:j07 a with
  |false=>rfl|true=>
   have L:=q4l (fun x=>(t6z x).bind fun r=>match r with
    |.inl o=>some (o.1,o.2,true)|.inr z=>some z) (u0z d a).toNat (fun(p:Hu Hs×Int) i=>(a,d, [],s.1,p.1,p.2,i)) (fun i p=>u9b s.1 ((u0z d a).toNat - i) p.2 p.1) (fun i p=>p.1.length<=i)
    (fun p _=>by
     rw[r45];simp only[t6o,s7k d a hb,zOb];rw[A7 (by omega)];simp only[Aa,zOb,Dw,u9b])
    (fun i p hi hp=>by
     have e:(u0z d a).toNat - i=((u0z d a).toNat - (i+1))+1:=by omega
     rw[r45];simp only[t6o,s7k d a hb,zOb];rw[Bb (by omega),e];simp only[Ad,q8w s.1 p.2 hz,zOb,u9b,d08];cases hr:(u0p s.1 p.2).2.2 with
     |false=>left;rfl|true=>
      cases hq:z7q (u0p s.1 p.2).1 emp with
      |true=>left;rfl|false=>
       right;refine⟨(p.1++ [(u0p s.1 p.2).1],(u0p s.1 p.2).2.1),by simp;omega,by simp,?_⟩;simp only[Ap,Aa,zOb,Aw,u0v (show p.1.length+1<=1099511627776 by omega),Ad];rw[y7x (by omega)]) 0 ([],0) (by omega) (by simp)
   simp only[Ap,Aa,zOb,Dt,Bl];exact L
def u0d(d:u0j):Hu Hs:=(u0c d (u0n d)).1
theorem r9c(d:u0j)(hd:c2e.wt d<=1073741824):t77 d=some (u0d d):=by
 rw[o2j];unfold q4x;simp only[s9p d (show c2e.wt d<=u0i by unfold u0i;omega),r9f d _ hd,zOb];rfl
theorem o71(t:Hs):∀(m:Nat) (at_:Int) (acc:Hu Hs),(u9b t m at_ acc).1.length<=acc.length+m
 |0,at_,acc=>by simp[u9b]
 |m+1,at_,acc=>by
  unfold u9b;split
  .have:=o71 t m (u0p t at_).2.1 (acc++ [(u0p t at_).1]);simp at this;omega
  .simp
theorem q65(d:u0j)(a:Int):(u0c d a).1.length<256:=by
 unfold u0c;split
 .have h:=o71 (t1h d (u0f a+1) 47).1 (u0z d a).toNat 0 [];have:=r68 d a;simp at h;omega
 .simp
def d37(a b:Hu Hs):Bool:=decide (a=b)
theorem o8o{a b:Hu Hs}(h:a.length=b.length):(bif (a.zip b).any (fun p=> !z7q p.1 p.2) then false else true)=decide (a=b):=by
 induction a generalizing b with
 |nil=>
  cases b with
  |nil=>rfl|cons y b=>simp at h
 |cons x a ih=>
  cases b with
  |nil=>simp at h|cons y b=>
   have h' :a.length=b.length:=by simpa using h
   have:=ih h';simp only[List.zip_cons_cons,Gd,List.cons.injEq];by_cases e:x=y
   .subst e;simp only[y6w,Ap,Ci,true_and];exact this
   .have:z7q x y=false:=by rw[←Ey,y7r];exact e
    simp[this,e]
theorem d0a(a b:Hu Hs)(ha:a.length<=u0i):u87 (a,b)=some (d37 a b):=by
 unfold u0i at ha;rw[s9x];unfold t63 d37;simp only;by_cases h:a.length=b.length
 .have hz:(a.zip b).length=a.length:=by simp[h]
  have L:=s4c u30 (a.zip b) (fun i=>(a,b,(a.length:Int),i)) (fun p=> !z7q p.1 p.2) (.inr false) (.inl ())
   (by rw[t3g,hz];simp only[u3x,u0b,Am,Ah,Aa])
   (fun i hi=>by
    have hi1:i<a.length:=by omega
    have hi2:i<b.length:=by omega
    rw[t3g];simp only[u3x,u0b,hi1,Ae,Ad,y8h hi1,y8h hi2,zTn,y9a (t:=Ty.str) hi1,y9a (t:=Ty.str) hi2,List.getElem_zip];rw[y7x (by omega)])
  have e1:decide ((a.length:Int)=(b.length:Int))=true:=by simp[h]
  simp only[e1,Ap,Aa,L,zOb];rw[←o8o h];cases (a.zip b).any fun p=> !z7q p.1 p.2<;>rfl
 .have e1:decide ((a.length:Int)=(b.length:Int))=false:=by simp;omega
  have e2:decide (a=b)=false:=by
   rw[Bu];intro e;exact h (by rw[e])
  rw[e1,e2];rfl
def o8q(a b:u0j):Bool:=d37 (u0d a) (u0d b)
theorem o5f(a b:u0j)(ha:c2e.wt a<=1073741824)(hb:c2e.wt b<=1073741824):s8l (a,b)=some (o8q a b):=by
 rw[p9l];unfold q0w;have h1:(u0d a).length<=u0i:=by have:=q65 a (u0n a);unfold u0d u0i;omega
 simp only[r9c a ha,r9c b hb,d0a _ _ h1,zOb];rfl
def u1v(d:u0j):Bool:=decide (1<=d.1.length/\d.1.length<=100)&&decide (d.2.length<=60)&&d.1.all (fun s=>decide (s.size=64))&&d.2.all (fun p=>r89 p.1 0 ((d.1.length:Int) - 1)&&decide (p.2.size=64))
theorem o9p{α:Type}(l:Hu α)(p:α->Bool):l.any (fun x=> !p x)= !l.all p:=by
 induction l with
 |nil=>rfl|cons x l ih=>simp only[Gd,Gc,ih,Bool.not_and]
theorem r0m(d:u0j)(hd:c2e.wt d<=u0i):t4a d=some (u1v d):=by
 have h1:d.1.length<=u0i:=A9 t48 hd;have h2:d.2.length<=u0i:=A9 t7x hd;unfold u0i at h1 h2
 have L1:=s4c s4g d.1 (fun i=>(d,i)) (fun s=> !decide (s.size=64)) (.inr false) (.inl d)
  (by rw[q7r];simp only[s37,u0b,Am,Ah,Aa])
  (fun i hi=>by
   rw[q7r];simp only[s37,u0b,hi,Ae,Ad,y8h hi,zTn,y9a (t:=Ty.str) hi];rw[y7x (by omega)];have:decide (((d.1[i]).size:Int)=(64:Int))=decide ((d.1[i]).size=64):=by simp only[Cu];omega
   rw[this])
 have L2:=s4c s4h d.2 (fun i=>(d,i)) (fun p=> !(r89 p.1 0 ((d.1.length:Int) - 1)&&decide (p.2.size=64))) (.inr false) (.inl ())
  (by rw[q7s];simp only[s38,u0b,Am,Ah,Aa])
  (fun i hi=>by
   rw[q7s];simp only[s38,u0b,hi,Ae,Ad,y8h hi,zTn,y9a (t:=o7z) hi,s6u,zOb];rw[y7x (by omega),y5f (n:=(d.1.length:Int) - 1) (by omega) (by omega)];have:decide (((d.2[i]).2.size:Int)=(64:Int))=decide ((d.2[i]).2.size=64):=by simp only[Cu];omega
   rw[this];cases r89 (d.2[i]).1 0 ((d.1.length:Int) - 1)<;>rfl)
 rw[j0k];unfold p3g u1v;simp only[s6u,r5s (a:=(d.1.length:Int)),L1,zOb];have e1:decide ((1:Int)<=(d.1.length:Int)/\(d.1.length:Int)<=100)=decide (1<=d.1.length/\d.1.length<=100):=by simp only[Cu];omega
 have e2:decide ((d.2.length:Int) >60)= !decide (d.2.length<=60):=by
  rw[←decide_not,Cu];omega
 rw[e1,e2,o9p];cases decide (1<=d.1.length/\d.1.length<=100) with
 |false=>rfl|true=>
  cases decide (d.2.length<=60) with
  |false=>rfl|true=>
   cases d.1.all (fun s=>decide (s.size=64)) with
   |false=>rfl|true=>
    simp only[Ap,Aa,zOb,L2,o9p];cases d.2.all _<;>rfl
theorem r9b(d:u0j)(hd:c2e.wt d<=u0i):t9z d=some (u1v d):=by
 have h1:d.1.length<=u0i:=A9 t48 hd;have h2:d.2.length<=u0i:=A9 t7x hd;unfold u0i at h1 h2
 have L1:=s4c s4d d.1 (fun i=>(d,d.1,(d.1.length:Int),i)) (fun s=> !decide (s.size=64)) (.inr false) (.inl d)
  (by rw[q7l];simp only[s31,u0b,Am,Ah,Aa])
  (fun i hi=>by
   rw[q7l];simp only[s31,u0b,hi,Ae,Ad,y8h hi,zTn,y9a (t:=Ty.str) hi];rw[y7x (by omega)];have:decide (((d.1[i]).size:Int)=(64:Int))=decide ((d.1[i]).size=64):=by simp only[Cu];omega
   rw[this])
 have L2:=s4c s4e d.2 (fun i=>(d,d.2,(d.2.length:Int),i)) (fun p=> !(r89 p.1 0 ((d.1.length:Int) - 1)&&decide (p.2.size=64))) (.inr false) (.inl d)
  (by rw[q7m];simp only[s32,u0b,Am,Ah,Aa])
  (fun i hi=>by
   rw[q7m];simp only[s32,u0b,hi,Ae,Ad,y8h hi,zTn,y9a (t:=o7z) hi,s5k,zOb];rw[y7x (by omega),y5f (n:=(d.1.length:Int) - 1) (by omega) (by omega)];have:decide (((d.2[i]).2.size:Int)=(64:Int))=decide ((d.2[i]).2.size=64):=by simp only[Cu];omega
   rw[this];cases r89 (d.2[i]).1 0 ((d.1.length:Int) - 1)<;>rfl)
 rw[o92];unfold p2x u1v;simp only[L1,zOb];have e1:decide ((1:Int)<=(d.1.length:Int)/\(d.1.length:Int)<=100)=decide (1<=d.1.length/\d.1.length<=100):=by simp only[Cu];omega
 have e2:decide ((d.2.length:Int)<=60)=decide (d.2.length<=60):=by rw[Cu];omega
 rw[o9p];cases d.1.all (fun s=>decide (s.size=64)) with
 |false=>simp|true=>
  simp only[Ap,Aa,zOb,L2,o9p];cases d.2.all (fun p=>r89 p.1 0 ((d.1.length:Int) - 1)&&decide (p.2.size=64)) with
  |false=>simp|true=>
   simp only[Ap,Aa,zOb,s5k,r5s (a:=(d.1.length:Int)),e1,e2];cases decide (1<=d.1.length/\d.1.length<=100)<;>cases decide (d.2.length<=60)<;>rfl
def u2k(d:u0j):Bool:=u1v d&&decide (d.1.length=97)&&decide (d.2.length=0)&&(u0c d 0).2.2&&(u0c d 1).2.2
theorem p5y(d:u0j)(hd:c2e.wt d<=1073741824):s71 d=some (u2k d):=by
 have hb:c2e.wt d<=u0i:=by unfold u0i;omega
 rw[j3t];unfold p70 u2k;have hs:u9p ()=some 97:=by rw[s5x];rfl
 simp only[r0m d hb,hs,r9g d _ hd,zOb];have e1:decide ((d.1.length:Int)=97)=decide (d.1.length=97):=by rw[Cu];omega
 have e2:decide ((d.2.length:Int) >0)= !decide (d.2.length=0):=by rw[←decide_not,Cu];omega
 rw[e1,e2];cases u1v d<;>cases decide (d.1.length=97)<;>cases decide (d.2.length=0)<;>cases (u0c d 0).2.2<;>cases (u0c d 1).2.2<;>rfl
theorem p5x(d:u0j)(hd:c2e.wt d<=1073741824):s7y d=some (u2k d):=by
 have hb:c2e.wt d<=u0i:=by unfold u0i;omega
 rw[j3g];unfold p7n u2k;simp only[r9b d hb,r9f d _ hd,zOb];have e1:decide ((d.1.length:Int)=97)=decide (d.1.length=97):=by rw[Cu];omega
 have e2:decide ((d.2.length:Int)=0)=decide (d.2.length=0):=by rw[Cu];omega
 rw[e1,e2];cases u1v d<;>cases decide (d.1.length=97)<;>cases decide (d.2.length=0)<;>cases (u0c d 0).2.2<;>cases (u0c d 1).2.2<;>rfl
theorem j6c(d:u0j):c2e.wt d=(d.1.length+(d.1.map ByteArray.size).sum)+(d.2.length+(d.2.map fun p=>0+p.2.size).sum):=rfl
theorem o8u{α:Type}{l:Hu α}{f:α->Nat}{k:Nat}(h:∀x∈l,f x<=k):(l.map f).sum<=l.length*k:=by
 induction l with
 |nil=>simp|cons x l ih=>
  have h1:=h x (C9 ..);have h2:=ih (fun y hy=>h y (Bm _ hy));simp only[C8,Ge,Bc,C7];omega
theorem o77{d:u0j}:u1v d=true↔(1<=d.1.length/\d.1.length<=100)/\d.2.length<=60/\(∀s∈d.1,s.size=64)/\ ∀p∈d.2,(0<=p.1/\p.1<(d.1.length:Int))/\p.2.size=64:=by
 unfold u1v;simp only[Ai,Ar,Bg,r89,and_assoc];constructor
 .rintro⟨a,b,c,e,f⟩
  exact⟨a,b,c,e,fun p hp=>by obtain⟨x,y,z⟩:=f p hp;exact⟨x,by omega,z⟩⟩
 .rintro⟨a,b,c,e,f⟩
  exact⟨a,b,c,e,fun p hp=>by obtain⟨x,y,z⟩:=f p hp;exact⟨x,by omega,z⟩⟩
theorem u2p{d:u0j}(h:u1v d=true):c2e.wt d<=11000:=by
 obtain⟨h1,h2,h3,h4⟩:=o77.mp h;have a1:=o8u (l:=d.1) (f:=ByteArray.size) (k:=64) (fun s hs=>by rw[h3 s hs];exact Au _);have a2:=o8u (l:=d.2) (f:=fun p=>0+p.2.size) (k:=64) (fun p hp=>by rw[(h4 p hp).2];exact Au _);rw[j6c];omega
theorem d6y(d:u0j)(p:Int×Hs):c2e.wt (d.1,d.2++ [p])=c2e.wt d+1+p.2.size:=by
 rw[j6c,j6c];simp;omega
theorem u9k(d:u0j)(hd:c2e.wt d<=u0i):u0x d=some d:=by
 have h1:d.1.length<=u0i:=A9 t48 hd;have h2:d.2.length<=u0i:=A9 t7x hd;unfold u0i at h1 h2;rw[o6x];unfold q97;have a1:Nat.ble (([] :Hu Hs).length+d.1.length) z7z=true:=u0v (by simp;omega);have a2:Nat.ble (([] :Hu s5n.den).length+d.2.length) z7z=true:=u0v (by simp;omega);simp only[a1,a2,Ad,Cf]
theorem u9j(d:u0j)(hd:c2e.wt d<=u0i):u06 d=some d:=by
 have h1:d.1.length<=u0i:=A9 t48 hd;have h2:d.2.length<=u0i:=A9 t7x hd;unfold u0i at h1 h2;rw[o2v];unfold q48;simp only[u0v h1,u0v h2,Ad]
def u61(d:u0j)(k:Int)(t:Hs):Ht u0j:=if u1v (d.1,d.2++ [(k,t)]) then some (d.1,d.2++ [(k,t)]) else none
def orD(d:u0j):Ht u0j->u0j×Bool
 |some x=>(x,true)|none=>(d,false)
theorem r9n(d:u0j)(k:Int)(t:Hs):u1v (d.1,d.2++ [(k,t)])=(u1v d&&(r89 k 0 ((d.1.length:Int) - 1)&&(decide (t.size=64)&& !decide (60<=d.2.length)))):=by
 rw[Cd];simp only[Ai,Bj,Ar,Bu];rw[o77,o77];simp only[Ba,Aw,Ay,Ax,r89,Ai,Ar];constructor
 .rintro⟨a,b,c,e⟩
  have:=e (k,t) (.inr rfl);exact⟨⟨a,by omega,c,fun p hp=>e p (.inl hp)⟩,⟨this.1.1,by have:=this.1.2;omega⟩,this.2,by omega⟩
 .rintro⟨⟨a,b,c,e⟩,⟨f1,f2⟩,g,h⟩
  refine⟨a,by omega,c,fun p hp=> ?_⟩;rcases hp with hp|rfl
  .exact e p hp
  .exact⟨⟨f1,by show k<(d.1.length:Int);omega⟩,g⟩
theorem p82(d:u0j)(k:Int)(t:Hs)(hd:c2e.wt d<=1073741824)(ht:t.size<=1073741824):s43 (d,k,t)=some (orD d (u61 d k t)):=by
 have h2:d.2.length<=1073741824:=A9 t7x hd;have a:Nat.ble (d.2.length+([(k,t)] :Hu s5n.den).length) z7z=true:=u0v (by simp;omega);have b:=r9b (d.1,d.2++ [(k,t)]) (by rw[d6y];unfold u0i;simp only;omega);rw[p4c];unfold r3f;simp only[u9j d (by unfold u0i;omega),zOb,a,Ad,b];unfold u61;cases u1v (d.1,d.2++ [(k,t)])<;>rfl
theorem p83(d:u0j)(k:Int)(t:Hs)(hd:c2e.wt d<=1073741824)(ht:t.size<=1073741824):t7b (d,k,t)=some (orD d (u61 d k t)):=by
 have h2:d.2.length<=1073741824:=A9 t7x hd;have h1:d.1.length<=1073741824:=A9 t48 hd;have a:Nat.ble (d.2.length+([(k,t)] :Hu s5n.den).length) z7z=true:=u0v (by simp;omega);have w:i64.wrap ((d.1.length:Int) - 1)=(d.1.length:Int) - 1:=y5f (by omega) (by omega);have e1:decide ((t.size:Int)=(64:Int))=decide (t.size=64):=by simp only[Cu];omega
 have e2:decide ((d.2.length:Int)>=(60:Int))=decide (60<=d.2.length):=by simp only[Cu];omega
 rw[p4k];unfold r3l;simp only[u9k d (by unfold u0i;omega),r0m d (by unfold u0i;omega),zOb,a,Ad,s6u,w,e1,e2];unfold u61;rw[r9n];cases u1v d<;>cases r89 k 0 ((d.1.length:Int) - 1)<;>cases decide (t.size=64)<;>cases decide (60<=d.2.length)<;>rfl
def o0q:Nat->u0j->Nat->Nat->Hs->Ht u0j
 |0,d,_,_,_=>some d
 |f+1,d,k,at_,t=>if t.size=0 then some d else
  if(u0l d (k:Int)).2=true/\(u0l d (k:Int)).1.size=64 then
   (u61 d (k:Int) ((u0l d (k:Int)).1.extract 0 at_++t.extract 0 (min t.size (64 - at_))++(u0l d (k:Int)).1.extract (at_+min t.size (64 - at_)) 64)).bind fun x=>
    o0q f x (k+1) 0 (t.extract (min t.size (64 - at_)) t.size)
  else none
theorem j1s(f:Nat)(d:u0j)(k at_:Nat){t:Hs}(h:t.size=0):o0q f d k at_ t=some d:=by
 cases f with
 |zero=>rfl|succ f=>rw[o0q,Al h]
theorem t8l{d x:u0j}{k:Int}{t:Hs}(h:u61 d k t=some x):u1v x=true/\x=(d.1,d.2++ [(k,t)]):=by
 unfold u61 at h;split at h
 .rename_i hk;cases h;exact⟨hk,rfl⟩
 .cases h
theorem r4n{t:Hs}:z7q t ⟨#[]⟩=decide (t.size=0):=by
 rw[Cd,y7r,Ar];constructor
 .rintro rfl;rfl
 .intro h;have:t.data= #[] :=by apply Fi;exact h
  cases t;simp at this;rw[this]
theorem d2f:∀(f:Nat) (d0 out jk:u0j) (k at_:Nat) (t:Hs),t.size<f->t.size<=1048576->k<=4000000000 - t.size->at_<64->c2e.wt d0<=1073741824->c2e.wt out<=1073741824->
 t3w ((k:Int),(at_:Int),t,d0,jk,out)=some (match o0q f out k at_ t with
  |some x=> .inl (jk,x)|none=> .inr (d0,false))
 |0,d0,out,jk,k,at_,t,h,_,_,_,_,_=>by omega
 |f+1,d0,out,jk,k,at_,t,h,ht,hk,hat,h0,ho=>by
  rw[p2l];simp only[s28,r4n,r0n out (k:Int) (by unfold u0i;omega),u9j d0 (by unfold u0i;omega),zOb];rw[o0q];by_cases hz:t.size=0
  .simp only[hz,Ae,Ap,Aa,Bl]
  .simp only[hz,Ah,Bh,Ad,Bk];generalize u0l out (k:Int)=r;obtain⟨old,rok⟩:=r;cases rok with
   |false=>simp|true=>
    have e64:decide ((old.size:Int)=(64:Int))=decide (old.size=64):=by simp only[Cu];omega
    simp only[Ap,Aa,zOb,e64];by_cases hs:old.size=64
    .obtain⟨n,hn⟩:∃n,n=min t.size (64 - at_):=⟨_,rfl⟩;have w1:i64.wrap ((64:Int) - (at_:Int))=((64 - at_:Nat):Int):=by rw[y5f (by omega) (by omega)];omega
     have im:y8y (t.size:Int) ((64 - at_:Nat):Int)=(n:Int):=by
      unfold y8y;split<;>omega
     have w2:i64.wrap ((at_:Int)+(n:Int))=((at_+n:Nat):Int):=by rw[y5f (by omega) (by omega)];omega
     have w3:i64.wrap ((k:Int)+1)=((k+1:Nat):Int):=y7x (by omega);have z0:((0:Int)).toNat=0:=rfl;have hnl:n<=t.size:=by omega
     have hn64:at_+n<=64:=by omega
     have c1:(decide ((0:Int)<=0)&&decide ((0:Int)<=(at_:Int))&&decide ((at_:Int)<=(old.size:Int)))=true:=by simp;omega
     have c2:(decide ((0:Int)<=0)&&decide ((0:Int)<=(n:Int))&&decide ((n:Int)<=(t.size:Int)))=true:=by simp;omega
     have c3:decide ((old.extract 0 at_).size+(t.extract 0 n).size<=140737488355328)=true:=by simp only[Bd,Ar];omega
     have c4:(decide ((0:Int)<=((at_+n:Nat):Int))&&decide (((at_+n:Nat):Int)<=(old.size:Int))&&decide ((old.size:Int)<=(old.size:Int)))=true:=by simp;omega
     have c5:decide ((old.extract 0 at_++t.extract 0 n).size+(old.extract (at_+n) old.size).size<=140737488355328)=true:=by simp only[Af,Bd,Ar];omega
     have c6:(decide ((0:Int)<=(n:Int))&&decide ((n:Int)<=(t.size:Int))&&decide ((t.size:Int)<=(t.size:Int)))=true:=by simp;omega
     have hw:=p82 out (k:Int) (old.extract 0 at_++t.extract 0 n++old.extract (at_+n) 64) ho (by simp only[Af,Bd];omega);rw[hs]at c5;simp only[hs,Ae,Ap,Aa,w1,im,w2,w3,z0,zTn,c3,c5,and_self,Bl];rw[hs]at c1 c4;have c1' :(decide ((0:Int)<=0)&&decide ((0:Int)<=(at_:Int))&&decide ((at_:Int)<=((64:Nat):Int)))=true:=c1;have c4' :(decide ((0:Int)<=((at_+n:Nat):Int))&&decide (((at_+n:Nat):Int)<=((64:Nat):Int))&&decide (((64:Nat):Int)<=((64:Nat):Int)))=true:=c4;rw[c1',c2,c4',c6];simp only[Ad,hw,zOb,←hn];cases hx:u61 out (k:Int) (old.extract 0 at_++t.extract 0 n++old.extract (at_+n) 64) with
     |none=>simp[orD]|some x=>
      simp only[orD,Ap,Aa,zOb];have hsz:(t.extract n t.size).size=t.size - n:=by simp only[Bd];omega
      have:=d2f f d0 x jk (k+1) 0 (t.extract n t.size) (by omega) (by omega) (by omega) (by omega) h0 (A9 (u2p (t8l hx).1) (by omega));exact this
    .simp[hs]
theorem d2g(d0 jk:u0j)(sec at_:Nat)(t:Hs)(hsec:sec<=2000000000)(hat:at_<=6400)(ht:t.size<=1048576)(h0:c2e.wt d0<=1073741824):∀(f i:Nat) (out:u0j),i<=t.size->t.size - i<f->c2e.wt out<=1073741824->
 u7h ((sec:Int),(at_:Int),t,d0,jk,out,(i:Int))=some (match o0q f out (sec+(at_+i) / 64) ((at_+i) % 64) (t.extract i t.size) with
  |some x=> .inl (jk,x)|none=> .inr (d0,false))
 |0,i,out,_,h,_=>by omega
 |f+1,i,out,hi,hf,ho=>by
  have hsz:(t.extract i t.size).size=t.size - i:=by simp only[Bd];omega
  have w0:i64.wrap ((at_:Int)+(i:Int))=((at_+i:Nat):Int):=by rw[y5f (by omega) (by omega)];omega
  have t1:Int.tdiv ((at_+i:Nat):Int) (64:Int)=(((at_+i) / 64:Nat):Int):=d4d (at_+i) 64;have t2:Int.tmod ((at_+i:Nat):Int) (64:Int)=(((at_+i) % 64:Nat):Int):=j47 (at_+i) 64;obtain⟨q,hq⟩:∃q,q=(at_+i) / 64:=⟨_,rfl⟩;obtain⟨m,hm⟩:∃m,m=(at_+i) % 64:=⟨_,rfl⟩;have w1:i64.wrap ((q:Int))=(q:Int):=y5f (by omega) (by omega);have w2:i64.wrap ((sec:Int)+(q:Int))=((sec+q:Nat):Int):=by rw[y5f (by omega) (by omega)];omega
  have w3:i64.wrap ((64:Int) - (m:Int))=((64 - m:Nat):Int):=by rw[y5f (by omega) (by omega)];omega
  have w4:i64.wrap ((t.size:Int) - (i:Int))=((t.size - i:Nat):Int):=by rw[y5f (by omega) (by omega)];omega
  rw[p2m];simp only[s29,w0,t1,t2,←hq,←hm,w1,w2,w3,w4,r0o out ((sec+q:Nat):Int) (by unfold u0i;omega),u9k d0 (by unfold u0i;omega),zOb,u0b];rw[o0q,hsz];by_cases hz:i<t.size
  .have hz' : ¬t.size - i=0:=by omega
   simp only[hz,Ae,Ad,hz',Bk];generalize u0l out ((sec+q:Nat):Int)=r;obtain⟨old,rok⟩:=r;cases rok with
   |false=>simp|true=>
    have e64:decide ((old.size:Int)=(64:Int))=decide (old.size=64):=by simp only[Cu];omega
    simp only[Ap,Aa,zOb,e64];by_cases hs:old.size=64
    .obtain⟨n,hn⟩:∃n,n=min (t.size - i) (64 - m):=⟨_,rfl⟩;have z0:((0:Int)).toNat=0:=rfl;have hm64:m<64:=by omega
     have body:∀N:Nat,N=n->i64.wrap ((i:Int)+(N:Int))=((i+n:Nat):Int)/\i64.wrap ((m:Int)+(N:Int))=((m+n:Nat):Int):=fun N hN=>by
      subst hN;exact⟨by rw[y5f (by omega) (by omega)];omega,by rw[y5f (by omega) (by omega)];omega⟩
     have c1:(decide ((0:Int)<=0)&&decide ((0:Int)<=(m:Int))&&decide ((m:Int)<=((64:Nat):Int)))=true:=by simp;omega
     have c2:(decide ((0:Int)<=(i:Int))&&decide ((i:Int)<=((i+n:Nat):Int))&&decide (((i+n:Nat):Int)<=(t.size:Int)))=true:=by simp;omega
     have c3:decide ((old.extract 0 m).size+(t.extract i (i+n)).size<=140737488355328)=true:=by simp only[Bd,Ar];omega
     have c4:(decide ((0:Int)<=((m+n:Nat):Int))&&decide (((m+n:Nat):Int)<=((64:Nat):Int))&&decide (((64:Nat):Int)<=((64:Nat):Int)))=true:=by simp;omega
     have c5:decide ((old.extract 0 m++t.extract i (i+n)).size+(old.extract (m+n) 64).size<=140737488355328)=true:=by simp only[Af,Bd,Ar];omega
     have hx1:(t.extract i t.size).extract 0 n=t.extract i (i+n):=by
      rw[ByteArray.extract_extract];congr 1;omega
     have hx2:(t.extract i t.size).extract n (t.size - i)=t.extract (i+n) t.size:=by
      rw[ByteArray.extract_extract];congr 1;omega
     have hw:=p83 out ((sec+q:Nat):Int) (old.extract 0 m++t.extract i (i+n)++old.extract (m+n) 64) ho (by simp only[Af,Bd];omega);have ih:∀x:u0j,u1v x=true->u7h ((sec:Int),(at_:Int),t,d0,jk,x,((i+n:Nat):Int))=some (match o0q f x (sec+q+1) 0 (t.extract (i+n) t.size) with
      |some x=> .inl (jk,x)|none=> .inr (d0,false)):=fun x hx=>by
      have:=d2g d0 jk sec at_ t hsec hat ht h0 f (i+n) x (by omega) (by omega) (A9 (u2p hx) (by omega));rw[this];by_cases he:i+n=t.size
      .have hsz2:(t.extract (i+n) t.size).size=0:=by simp only[Bd];omega
       rw[j1s _ _ _ _ hsz2,j1s _ _ _ _ hsz2]
      .have hn2:n=64 - m:=by omega
       have e1:sec+(at_+(i+n)) / 64=sec+q+1:=by omega
       have e2:(at_+(i+n)) % 64=0:=by omega
       rw[e1,e2]
     rw[←hn,hx1,hx2];simp only[hs,Ae,Ap,Aa,and_self,Bl];by_cases hb:t.size - i<64 - m
     .obtain⟨b1,b2⟩:=body (t.size - i) (by omega);simp only[hb,Ae,Ad,b1,b2,zTn,z0,c3,c5];rw[c1,c2,c4];simp only[Ad,hw,zOb];cases hx:u61 out ((sec+q:Nat):Int) (old.extract 0 m++t.extract i (i+n)++old.extract (m+n) 64) with
      |none=>simp[orD]|some x=>
       simp only[orD,Ap,Aa,zOb];exact ih x (t8l hx).1
     .obtain⟨b1,b2⟩:=body (64 - m) (by omega);simp only[hb,Ah,Aa,b1,b2,zTn,z0,c3,c5];rw[c1,c2,c4];simp only[Ad,hw,zOb];cases hx:u61 out ((sec+q:Nat):Int) (old.extract 0 m++t.extract i (i+n)++old.extract (m+n) 64) with
      |none=>simp[orD]|some x=>
       simp only[orD,Ap,Aa,zOb];exact ih x (t8l hx).1
    .simp[hs]
  .have hz' :t.size - i=0:=by omega
   simp only[hz,Ah,Aa,hz',Bl]
def u7l(d:u0j)(sector at_:Int)(t:Hs):Ht u0j:=
 if r89 at_ 0 6400&&r89 sector 0 ((d.1.length:Int) - 1)&&u1v d then o0q (t.size+1) d (sector.toNat+at_.toNat / 64) (at_.toNat % 64) t else none
theorem r0r(d:u0j)(sector at_:Int)(t:Hs)(hd:c2e.wt d<=1073741824)(ht:t.size<=1048576):t2v (d,sector,at_,t)=some (orD d (u7l d sector at_ t)):=by
 have h1:d.1.length<=1073741824:=A9 t48 hd;have w:i64.wrap ((d.1.length:Int) - 1)=(d.1.length:Int) - 1:=y5f (by omega) (by omega);rw[p6t];unfold r62 u7l;simp only[u9k d (by unfold u0i;omega),r0m d (by unfold u0i;omega),zOb,s6u,w];cases ha:r89 at_ 0 6400 with
 |false=>rfl|true=>
  cases hs:r89 sector 0 ((d.1.length:Int) - 1) with
  |false=>rfl|true=>
   cases hk:u1v d with
   |false=>rfl|true=>
    simp only[r89,Ai,Ar]at ha hs;obtain⟨s,rfl⟩:∃s:Nat,sector=(s:Int):=⟨sector.toNat,by omega⟩;obtain⟨a,rfl⟩:∃a:Nat,at_=(a:Int):=⟨at_.toNat,by omega⟩;have L:=d2g d ([], []) s a t (by omega) (by omega) ht hd (t.size+1) 0 d (by omega) (by omega) hd;have L:u7h ((s:Int),(a:Int),t,d,([], []),d,0)=_:=L;have e:t.extract 0 t.size=t:=Fu;simp only[Ap,Aa,zOb,L,Dt,Bl,zTn,Df,e];cases o0q (t.size+1) d (s+a / 64) (a % 64) t<;>rfl
theorem d4j{f:Nat}{d:u0j}{k at_:Nat}{t:Hs}(hk:u1v d=false)(ht:t.size≠0):o0q (f+1) d k at_ t=none:=by
 rw[o0q,Ao ht];split
 .have:∀s,u61 d (k:Int) s=none:=fun s=>by
   unfold u61;rw[r9n,hk];rfl
  rw[this];rfl
 .rfl
theorem r0q(d:u0j)(sector at_:Int)(t:Hs)(hd:c2e.wt d<=1073741824)(ht:t.size<=1048576)(hne:t.size≠0):t2q (d,sector,at_,t)=some (orD d (u7l d sector at_ t)):=by
 have h1:d.1.length<=1073741824:=A9 t48 hd;have w:i64.wrap ((d.1.length:Int) - 1)=(d.1.length:Int) - 1:=y5f (by omega) (by omega);rw[p6i];unfold r6r u7l;simp only[u9j d (by unfold u0i;omega),zOb,s5k,w];cases ha:r89 at_ 0 6400 with
 |false=>rfl|true=>
  cases hs:r89 sector 0 ((d.1.length:Int) - 1) with
  |false=>rfl|true=>
   simp only[r89,Ai,Ar]at ha hs;obtain⟨s,rfl⟩:∃s:Nat,sector=(s:Int):=⟨sector.toNat,by omega⟩;obtain⟨a,rfl⟩:∃a:Nat,at_=(a:Int):=⟨at_.toNat,by omega⟩;have t1:Int.tdiv (a:Int) (64:Int)=((a / 64:Nat):Int):=d4d a 64;have t2:Int.tmod (a:Int) (64:Int)=((a % 64:Nat):Int):=j47 a 64;have w1:i64.wrap ((a / 64:Nat):Int)=((a / 64:Nat):Int):=y5f (by omega) (by omega);have w2:i64.wrap ((s:Int)+((a / 64:Nat):Int))=((s+a / 64:Nat):Int):=by rw[y5f (by omega) (by omega)];omega
   have L:=d2f (t.size+1) d d ([], []) (s+a / 64) (a % 64) t (by omega) ht (by omega) (by omega) hd hd;simp only[Ap,Aa,zOb,t1,t2,w1,w2,L,Bz,zTn];cases hk:u1v d with
   |false=>
    rw[d4j hk hne];rfl
   |true=>
    simp only[Bl];cases o0q (t.size+1) d (s+a / 64) (a % 64) t<;>rfl
def s75(s:Hu Hs)(p:Int×Hs):Hu Hs:=s.set p.1.toNat p.2
def flush(d:u0j):u0j:=if u1v d then(d.2.foldl s75 d.1, []) else d
theorem r0i(s:Hu Hs)(p:Int×Hs):(s75 s p).length=s.length:=by simp[s75]
theorem p14:∀(c:Hu (Int×Hs)) (s:Hu Hs),(c.foldl s75 s).length=s.length
 |[],s=>rfl|p::c,s=>by rw[Bs,p14 c,r0i]
theorem o8b:∀(c:Hu (Int×Hs)) (s:Hu Hs),(∀p∈c,p.2.size=64)->(∀x∈s,x.size=64)-> ∀x∈c.foldl s75 s,x.size=64
 |[],s,_,h=>h|p::c,s,hc,h=>by
  rw[Bs];refine o8b c _ (fun q hq=>hc q (Bm _ hq)) (fun x hx=> ?_);rcases E0 hx with hx|rfl
  .exact h x hx
  .exact hc p (C9 ..)
theorem s2p{d:u0j}(h:u1v d=true):u1v (flush d)=true/\(flush d).2= [] /\(flush d).1.length=d.1.length:=by
 unfold flush;rw[Al h];obtain⟨h1,h2,h3,h4⟩:=o77.mp h;refine⟨o77.mpr ⟨by rw[p14];exact h1,by simp,o8b _ _ (fun p hp=>(h4 p hp).2) h3,fun p hp=>by cases hp⟩,rfl,p14 _ _⟩
theorem s0n(d:u0j)(hd:c2e.wt d<=1073741824):u8q d=some (flush d):=by
 have h1:d.1.length<=1073741824:=A9 t48 hd;have h2:d.2.length<=1073741824:=A9 t7x hd;rw[p98];unfold q1h flush;simp only[u9k d (by unfold u0i;omega),r0m d (by unfold u0i;omega),zOb];cases hk:u1v d with
 |false=>rfl|true=>
  obtain⟨k1,k2,k3,k4⟩:=o77.mp hk
  have L:=t14 t6y d.2 (fun s i=>(d,([], []),(s,d.2),i)) s75 (fun s=> .inl (([], []),(s,d.2))) (fun _ s=>s.length=d.1.length)
   (fun s _=>by rw[r43];simp only[t6m,u0b,Am,Ah,Aa])
   (fun i hi s hs=>by
    refine⟨by rw[r0i];exact hs,?_⟩;have hp:=(k4 d.2[i] (Ag hi)).1;have hg:y4v (d.2[i]).1 s.length=true:=by simp[y4v,hs,hp.1,hp.2]
    rw[r43];simp only[t6m,u0b,hi,Ae,Ad,y8h hi,zTn,y9a (t:=o7z) hi,hg];rw[y7x (by omega)];rfl) d.1 rfl
  simp only[Ap,Aa,L,zOb,Bl]
theorem s0m(d:u0j)(hd:c2e.wt d<=1073741824):u8n d=some (flush d):=by
 have h1:d.1.length<=1073741824:=A9 t48 hd;have h2:d.2.length<=1073741824:=A9 t7x hd;rw[p9d];unfold q0p flush;simp only[u9j d (by unfold u0i;omega),r9b d (by unfold u0i;omega),zOb];cases hk:u1v d with
 |false=>rfl|true=>
  obtain⟨k1,k2,k3,k4⟩:=o77.mp hk
  have L:=t14 t6u d.2 (fun s i=>(([], []),(s,d.2),d.2,(d.2.length:Int),i)) s75 (fun s=> .inl (([], []),(s,d.2))) (fun _ s=>s.length=d.1.length)
   (fun s _=>by rw[r4t];simp only[t6c,u0b,Am,Ah,Aa])
   (fun i hi s hs=>by
    refine⟨by rw[r0i];exact hs,?_⟩;have hp:=(k4 d.2[i] (Ag hi)).1;have hg:y4v (d.2[i]).1 s.length=true:=by simp[y4v,hs,hp.1,hp.2]
    rw[r4t];simp only[t6c,u0b,hi,Ae,Ad,y8h hi,zTn,y9a (t:=o7z) hi,hg];rw[y7x (by omega)];rfl) d.1 rfl
  simp only[Ad,L,zOb,Bl]
def p17(keep:Hu Int)(i:Nat):Bool:=decide (i<keep.length)&& !decide (Int.tmod (rdL (Ty.int .i64) keep i) 2=0)
def u0r(keep:Hu Int):Nat->Int
 |0=> -1|n+1=>if p17 keep n then(n:Int) else u0r keep n
def t8g(tear:Int):Nat:=(if Int.tmod tear 65<0 then Int.tmod tear 65+65 else Int.tmod tear 65).toNat
def t2j(d:u0j)(keep:Hu Int)(last:Int)(n:Nat)(s:Hu Hs)(i:Nat):Hu Hs:=
 if p17 keep i then
  (if(i:Int)=last then s75 s ((rdL o7z d.2 i).1,(rdL o7z d.2 i).2.extract 0 n++(rdL Ty.str s (rdL o7z d.2 i).1.toNat).extract n (rdL Ty.str s (rdL o7z d.2 i).1.toNat).size)
   else s75 s (rdL o7z d.2 i))
 else s
def t2i(d:u0j)(keep:Hu Int)(tear:Int):u0j:=
 if u1v d then((List.range d.2.length).foldl (t2j d keep (u0r keep d.2.length) (t8g tear)) d.1, []) else d
theorem p5a(tear:Int):t8g tear<=64/\((t8g tear:Nat):Int)=(if Int.tmod tear 65<0 then Int.tmod tear 65+65 else Int.tmod tear 65):=by
 have h1:Int.tmod tear 65<65:=Int.tmod_lt_of_pos _ (by omega);have h2: -65<Int.tmod tear 65:=by
  have:=Int.lt_tmod_of_pos tear (show(0:Int)<65 by omega);exact this
 unfold t8g;split<;>omega
theorem o4d(keep:Hu Int):∀n,u0r keep n<(n:Int)/\ -1<=u0r keep n
 |0=>by simp[u0r]
 |n+1=>by
  have:=o4d keep n;unfold u0r;split<;>omega
theorem p8i(keep:Hu Int):∀n i,i<n->p17 keep i=true->(i:Int)<=u0r keep n
 |0,i,h,_=>by omega
 |n+1,i,h,hk=>by
  unfold u0r;split
  .omega
  .rename_i hn;have:i≠n:=fun z=>by subst z;exact hn hk
   exact p8i keep n i (by omega) hk
theorem r9s(keep:Hu Int):∀n (i:Nat),u0r keep n=(i:Int)->p17 keep i=true
 |0,i,h=>by simp[u0r]at h
 |n+1,i,h=>by
  unfold u0r at h;split at h
  .rename_i hk;have:n=i:=by omega
   subst this;exact hk
  .exact r9s keep n i h
theorem j4g(keep:Hu Int)(m:Nat)(hm:keep.length<=m):∀n,m<=n->u0r keep n=u0r keep m:=by
 intro n
 induction n with
 | zero=>intro h;have:m=0:=by omega
         rw[this]
 |succ n ih=>
  intro h;by_cases e:m=n+1
  .rw[e]
  .rw[←ih (by omega)];show(if p17 keep n then(n:Int) else u0r keep n)=_;have:p17 keep n=false:=by
    unfold p17;have:decide (n<keep.length)=false:=by simp;omega
    rw[this];rfl
   rw[this,Ao (by simp)]
theorem o4n{α:Type}(f:α->Nat->α)(a:α)(n:Nat):(List.range (n+1)).foldl f a=f ((List.range n).foldl f a) n:=by
 rw[List.range_succ,List.foldl_append];rfl
section
variable {d:u0j} (hk:u1v d=true) (keep:Hu Int)
include hk in
theorem o9v{n:Nat}(hn:n<=64){last:Int}{s:Hu Hs}(hs:s.length=d.1.length/\ ∀x∈s,x.size=64){i:Nat}(hi:i<d.2.length):
 (t2j d keep last n s i).length=d.1.length/\ ∀x∈t2j d keep last n s i,x.size=64:=by
 obtain⟨k1,k2,k3,k4⟩:=o77.mp hk;have hp:=k4 d.2[i] (Ag hi);have hat:(d.2[i]).1.toNat<s.length:=by omega
 have hold:(rdL Ty.str s (d.2[i]).1.toNat).size=64:=by
  have e:rdL Ty.str s (d.2[i]).1.toNat=s[(d.2[i]).1.toNat] :=y9a (t:=Ty.str) hat;rw[e];exact hs.2 _ (Ag hat)
 unfold t2j;rw[y9a (t:=o7z) hi];split
 .split
  .refine⟨by rw[r0i];exact hs.1,fun x hx=> ?_⟩;rcases E0 hx with hx|rfl
   .exact hs.2 x hx
   .simp only[Af,Bd];rw[hp.2,hold];omega
  .refine⟨by rw[r0i];exact hs.1,fun x hx=> ?_⟩;rcases E0 hx with hx|rfl
   .exact hs.2 x hx
   .exact hp.2
 .exact hs
def s4q(d:u0j)(keep:Hu Int)(last:Int)(n i:Nat):Hu Hs:=(List.range i).foldl (t2j d keep last n) d.1
theorem r01{last:Int}{n i:Nat}:s4q d keep last n (i+1)=t2j d keep last n (s4q d keep last n i) i:=o4n _ _ _
include hk in
theorem r69{n:Nat}(hn:n<=64){last:Int}:∀i,i<=d.2.length->(s4q d keep last n i).length=d.1.length/\ ∀x∈s4q d keep last n i,x.size=64
 |0,_=>⟨rfl,(o77.mp hk).2.2.1⟩|i+1,h=>by
  rw[r01];exact o9v hk keep hn (r69 hn i (by omega)) (by omega)
theorem j81{last:Int}{n L N:Nat}(h:∀i,L<=i->i<N->p17 keep i=false):∀m,L<=m->m<=N->s4q d keep last n m=s4q d keep last n L:=by
 intro m
 induction m with
 | zero=>intro h _;have:L=0:=by omega
         rw[this]
 |succ m ih=>
  intro hm hN;by_cases e:L=m+1
  .rw[e]
  .rw[r01,ih (by omega) (by omega)];unfold t2j;rw[h m (by omega) (by omega),Ao (by simp)]
include hk
theorem o9w(tear:Int):u1v (t2i d keep tear)=true/\(t2i d keep tear).2= [] /\(t2i d keep tear).1.length=d.1.length:=by
 unfold t2i;rw[Al hk];have:=r69 hk keep (p5a tear).1 (last:=u0r keep d.2.length) d.2.length (Au _);have k1:=(o77.mp hk).1;have hl:(s4q d keep (u0r keep d.2.length) (t8g tear) d.2.length).length=d.1.length:=this.1;show u1v (s4q d keep (u0r keep d.2.length) (t8g tear) d.2.length, [])=true/\_;exact⟨o77.mpr ⟨by simp only[hl];exact k1,by simp,this.2,fun p hp=>by cases hp⟩,rfl,hl⟩
theorem d1g(tear:Int)(jk out:u0j):u75 (keep,tear,d,jk,out,-1,(d.2.length:Int),0)=some (.inl (keep,tear,d,jk,out,u0r keep d.2.length)):=by
 have k2:=(o77.mp hk).2.1;refine r9j u75 d.2.length (fun l i=>(keep,tear,d,jk,out,l,(d.2.length:Int),i)) (u0r keep) _ ?_ (fun i hi=> ?_)
 .rw[r4s];simp only[t6b,u0b,Am,Ah,Aa]
 .rw[r4s];simp only[t6b,u0b,hi,Ae,Ad,zTn];rw[y7x (by omega)];show _=u75 (keep,tear,d,jk,out,(if p17 keep i then(i:Int) else u0r keep i),(d.2.length:Int),((i+1:Nat):Int));unfold p17;by_cases h:i<keep.length
  .simp only[h,Ae,Ad,y8h h,Bz,zOb];cases decide (Int.tmod (rdL (Ty.int .i64) keep i) 2=0)<;>rfl
  .simp only[h,Ah,Aa,Fx,zOb];rfl
theorem d1h(tear:Int)(jk out:u0j):u78 (keep,tear,d,jk,out,-1,0)=some (.inl (keep,tear,d,jk,out,u0r keep d.2.length)):=by
 have k2:=(o77.mp hk).2.1;obtain⟨m,hm⟩:∃m,m=min d.2.length keep.length:=⟨_,rfl⟩;have htop:u0r keep d.2.length=u0r keep m:=by
  by_cases h:keep.length<=d.2.length
  .exact j4g keep m (by omega) d.2.length (by omega)
  .have:m=d.2.length:=by omega
   rw[this]
 rw[htop];refine r9j u78 m (fun l i=>(keep,tear,d,jk,out,l,i)) (u0r keep) _ ?_ (fun i hi=> ?_)
 .rw[r40];simp only[t6j,u0b];by_cases h:m<d.2.length
  .have: ¬m<keep.length:=by omega
   simp only[h,this,Ae,Ah,Ad,Aa,zOb]
  .simp only[h,Ah,Aa,zOb]
 .have h1:i<d.2.length:=by omega
  have h2:i<keep.length:=by omega
  rw[r40];simp only[t6j,u0b,h1,h2,Ae,Ad,zOb,y8h h2,zTn];rw[y7x (by omega)];show _=u78 (keep,tear,d,jk,out,(if p17 keep i then(i:Int) else u0r keep i),((i+1:Nat):Int));unfold p17;simp only[h2,Ae,Bz];cases decide (Int.tmod (rdL (Ty.int .i64) keep i) 2=0)<;>rfl
theorem j05{n:Nat}(hn:n<=64)(jk:u0j):u7e (keep,jk,(d.1, []),u0r keep d.2.length,(n:Int),d.2,(d.2.length:Int),0)=some (.inl (jk,(s4q d keep (u0r keep d.2.length) n d.2.length, []))):=by
 obtain⟨k1,k2,k3,k4⟩:=o77.mp hk;refine r9j u7e d.2.length (fun s i=>(keep,jk,(s, []),u0r keep d.2.length,(n:Int),d.2,(d.2.length:Int),i)) (s4q d keep (u0r keep d.2.length) n) _ ?_ (fun i hi=> ?_)
 .rw[r2o];simp only[t3i,u0b,Am,Ah,Aa]
 .obtain⟨i1,i2⟩:=r69 hk keep hn (last:=u0r keep d.2.length) i (by omega);have hp:=k4 d.2[i] (Ag hi);rw[r01];generalize hS:s4q d keep (u0r keep d.2.length) n i=S at*;have hat:(d.2[i]).1.toNat<S.length:=by omega
  have hg:y4v (d.2[i]).1 S.length=true:=by simp[y4v,i1,hp.1.1,hp.1.2]
  have hold:(rdL Ty.str S (d.2[i]).1.toNat).size=64:=by
   have e:rdL Ty.str S (d.2[i]).1.toNat=S[(d.2[i]).1.toNat] :=y9a (t:=Ty.str) hat;rw[e];exact i2 _ (Ag hat)
  have c1:(decide ((0:Int)<=0)&&decide ((0:Int)<=(n:Int))&&decide ((n:Int)<=((d.2[i]).2.size:Int)))=true:=by simp;omega
  have c2:(decide ((0:Int)<=(n:Int))&&decide ((n:Int)<=((rdL Ty.str S (d.2[i]).1.toNat).size:Int))&&decide (((rdL Ty.str S (d.2[i]).1.toNat).size:Int)<=((rdL Ty.str S (d.2[i]).1.toNat).size:Int)))=true:=by simp;omega
  have c3:decide (((d.2[i]).2.extract 0 n).size+((rdL Ty.str S (d.2[i]).1.toNat).extract n (rdL Ty.str S (d.2[i]).1.toNat).size).size<=140737488355328)=true:=by simp only[Bd,Ar];omega
  have z0:((0:Int)).toNat=0:=rfl;rw[r2o];simp only[t3i,u0b,hi,Ae,Ad,y8h hi,zTn,y9a (t:=o7z) hi,hg,z0,c3];rw[y7x (by omega),c1,c2];unfold t2j;rw[y9a (t:=o7z) hi];by_cases hl:(i:Int)=u0r keep d.2.length
  .have:=r9s keep d.2.length i hl.symm;rw[this];simp only[hl,Ae,Ad,Bl];rfl
  .simp only[hl,Ah,Aa,Bk];unfold p17;by_cases h:i<keep.length
   .simp only[h,Ae,Ad,y8h h,Bz,zOb];cases decide (Int.tmod (rdL (Ty.int .i64) keep i) 2=0)<;>rfl
   .simp only[h,Ah,Aa,Fx,zOb];rfl
theorem j06{n:Nat}(hn:n<=64)(jk:u0j):u7f (keep,d,jk,(d.1,d.2),u0r keep d.2.length,(n:Int),0)=some (.inl (jk,(s4q d keep (u0r keep d.2.length) n d.2.length,d.2))):=by
 obtain⟨k1,k2,k3,k4⟩:=o77.mp hk;obtain⟨hl1,hl2⟩:=o4d keep d.2.length;obtain⟨L,hL⟩:∃L:Nat,(L:Int)=u0r keep d.2.length+1:=⟨(u0r keep d.2.length+1).toNat,by omega⟩;have htop:s4q d keep (u0r keep d.2.length) n d.2.length=s4q d keep (u0r keep d.2.length) n L:=j81 keep (N:=d.2.length) (fun i hi hid=>by
  cases q:p17 keep i with
  |false=>rfl|true=>
   have:=p8i keep d.2.length i hid q;omega) _ (by omega) (Au _)
 rw[htop];refine r9j u7f L (fun s i=>(keep,d,jk,(s,d.2),u0r keep d.2.length,(n:Int),i)) (s4q d keep (u0r keep d.2.length) n) _ ?_ (fun i hi=> ?_)
 .have: ¬(L:Int)<=u0r keep d.2.length:=by omega
  rw[r2t];simp only[t3n,this,Ah,Aa]
 .have hid:i<d.2.length:=by omega
  have hle:(i:Int)<=u0r keep d.2.length:=by omega
  have hkk:i<keep.length:=by
   obtain⟨l,hl⟩:∃l:Nat,u0r keep d.2.length=(l:Int):=⟨(u0r keep d.2.length).toNat,by omega⟩;have:=r9s keep d.2.length l hl;unfold p17 at this;simp only[Ai,Ar]at this;omega
  obtain⟨i1,i2⟩:=r69 hk keep hn (last:=u0r keep d.2.length) i (by omega);have hp:=k4 d.2[i] (Ag hid);rw[r01];generalize hS:s4q d keep (u0r keep d.2.length) n i=S at*;have hat:(d.2[i]).1.toNat<S.length:=by omega
  have hg:y4v (d.2[i]).1 S.length=true:=by simp[y4v,i1,hp.1.1,hp.1.2]
  have hold:(rdL Ty.str S (d.2[i]).1.toNat).size=64:=by
   have e:rdL Ty.str S (d.2[i]).1.toNat=S[(d.2[i]).1.toNat] :=y9a (t:=Ty.str) hat;rw[e];exact i2 _ (Ag hat)
  have c1:(decide ((0:Int)<=0)&&decide ((0:Int)<=(n:Int))&&decide ((n:Int)<=((d.2[i]).2.size:Int)))=true:=by simp;omega
  have c2:(decide ((0:Int)<=(n:Int))&&decide ((n:Int)<=((rdL Ty.str S (d.2[i]).1.toNat).size:Int))&&decide (((rdL Ty.str S (d.2[i]).1.toNat).size:Int)<=((rdL Ty.str S (d.2[i]).1.toNat).size:Int)))=true:=by simp;omega
  have c3:decide (((d.2[i]).2.extract 0 n).size+((rdL Ty.str S (d.2[i]).1.toNat).extract n (rdL Ty.str S (d.2[i]).1.toNat).size).size<=140737488355328)=true:=by simp only[Bd,Ar];omega
  have z0:((0:Int)).toNat=0:=rfl;rw[r2t];simp only[t3n,hle,Ae,Ad,y8h hid,y8h hkk,zTn,y9a (t:=o7z) hid,hg,z0,c3];rw[y7x (by omega),c1,c2];unfold t2j p17;rw[y9a (t:=o7z) hid];simp only[hkk,Ae,Bz];by_cases ho:Int.tmod (rdL (Ty.int .i64) keep i) 2=0
  .simp only[ho,Ae,Ad,Ap,Br,Bk]
  .simp only[ho,Ah,Aa,Bh,Bl];by_cases hl:(i:Int)=u0r keep d.2.length
   .simp only[hl,Ae,Ad,Bl];rfl
   .simp only[hl,Ah,Aa,Bk];rfl
end
theorem q8q(d:u0j)(keep:Hu Int)(tear:Int)(hd:c2e.wt d<=1073741824):s2y (d,keep,tear)=some (t2i d keep tear):=by
 rw[p95];unfold q1e t2i;simp only[u9k d (by unfold u0i;omega),r0m d (by unfold u0i;omega),zOb];cases hk:u1v d with
 |false=>rfl|true=>
  obtain⟨t1,t2⟩:=p5a tear;have L1:=d1h hk keep tear ([], []) d;have L2:=j06 hk keep t1 ([], []);rw[t2]at L2;have hb: -65<Int.tmod tear 65:=Int.lt_tmod_of_pos tear (show(0:Int)<65 by omega);simp only[Ap,Aa,L1,zOb,Bl];by_cases h:Int.tmod tear 65<0
  .rw[Al h] at L2;have w:i64.wrap (i64.wrap (Int.tmod tear 65+64)+1)=Int.tmod tear 65+65:=by
    rw[y5f (n:=Int.tmod tear 65+64) (by omega) (by omega),y5f (by omega) (by omega)];omega
   simp only[h,Ae,Ad,w,L2,zOb];rfl
  .rw[Ao h]at L2;simp only[h,Ah,Aa,L2,zOb];rfl
theorem q8p(d:u0j)(keep:Hu Int)(tear:Int)(hd:c2e.wt d<=1073741824):s2s (d,keep,tear)=some (t2i d keep tear):=by
 rw[p9b];unfold q0n t2i;simp only[u9j d (by unfold u0i;omega),r9b d (by unfold u0i;omega),zOb];cases hk:u1v d with
 |false=>rfl|true=>
  obtain⟨t1,t2⟩:=p5a tear;have L1:=d1g hk keep tear ([], []) (d.1, []);have L2:=j05 hk keep t1 ([], []);rw[t2]at L2;have hb: -65<Int.tmod tear 65:=Int.lt_tmod_of_pos tear (show(0:Int)<65 by omega);simp only[Ap,Aa,L1,zOb,Bl];by_cases h:Int.tmod tear 65<0
  .rw[Al h]at L2;have w:i64.wrap (Int.tmod tear 65+65)=Int.tmod tear 65+65:=y5f (by omega) (by omega);simp only[h,Ae,Ad,w,L2,zOb];rfl
  .rw[Ao h]at L2;simp only[h,Ah,Aa,L2,zOb];rfl
theorem o1r(t:Hs):∀(m:Nat) (at_:Int) (acc:Hu Hs),0<=at_/\at_<=t.size->0<=(u9b t m at_ acc).2.1/\(u9b t m at_ acc).2.1<=t.size
 |0,at_,acc,h=>h|m+1,at_,acc,h=>by
  unfold u9b;split
  .rename_i hc;simp only[Ai]at hc;exact o1r t m _ _ (q68 hc.1)
  .simp
theorem q0a(d:u0j)(a:Int):0<=(u0c d a).2.1/\(u0c d a).2.1<=(100*c2e.wt d:Nat):=by
 unfold u0c;split
 .have h1:=o1r (t1h d (u0f a+1) 47).1 (u0z d a).toNat 0 [] (by simp);have h2:=q7f d (u0f a+1) 47;omega
 .simp only[Bv,true_and];omega
def u0t(t:Hs):Hs:=y7s (s9k t.size)++t
theorem s76(t:Hs):t.size<=(u0t t).size/\(u0t t).size<=2*t.size+1:=by
 unfold u0t;rw[Af,u6c];have:=j8f t.size;omega
theorem j6z(t:Hs)(h:t.size≠0):(u0t t).size≠0:=by
 have:=s76 t;omega
def t1k(d:u0j)(a:Int)(t:Hs):Ht u0j:=
 if(u0c d a).2.2=false\/t.size=0\/3008<t.size\/255<=u0z d a\/3008<(u0c d a).2.1+((u0t t).size:Int) then none
 else u7l d (u0f a+1) (u0c d a).2.1 (u0t t)
theorem o39(d:u0j)(a:Int)(t:Hs)(hd:c2e.wt d<=10000000)(ht:t.size<=1048576):s5d (d,a,t)=some (orD d (t1k d a t)):=by
 have hr:=q0a d a;have hs:=s76 t;have ha:=s3n a;rw[o3p];unfold q50 t1k;simp only[r9g d a (by omega),u9k d (by unfold u0i;omega),s7k d a (by unfold u0i;omega),o38 t.size (by omega),s6b,zOb,r4n];have e1:decide ((t.size:Int) >(3008:Int))=decide (3008<t.size):=by simp only[Cu];omega
 have w1:i64.wrap ((3008:Int) - (u0c d a).2.1)=3008 - (u0c d a).2.1:=y5f (by omega) (by omega);have w2:i64.wrap (u0f a+1)=u0f a+1:=y5f (by omega) (by omega);rw[e1];cases h1:(u0c d a).2.2 with
 |false=>simp[orD]|true=>
  by_cases h2:t.size=0
  .simp[h2,orD]
  .by_cases h3:3008<t.size
   .simp[h2,h3,orD]
   .by_cases h4:255<=u0z d a
    .have:decide (u0z d a>=255)=true:=by simpa using h4
     simp[h2,h3,h4,orD]
    .have e4:decide (u0z d a>=255)=false:=by simp;omega
     have c:decide ((y7s (s9k t.size)).size+t.size<=140737488355328)=true:=by
      have h5:(u0t t).size=(y7s (s9k t.size)).size+t.size:=by unfold u0t;rw[Af]
      simp;omega
     simp only[h2,h3,Ah,Ap,Aa,zOb,e4,c,Ad,w1,w2];have hsz:y7s (s9k t.size)++t=u0t t:=rfl;rw[hsz];by_cases h6:3008<(u0c d a).2.1+((u0t t).size:Int)
     .have:decide (((u0t t).size:Int) >3008 - (u0c d a).2.1)=true:=by simp;omega
      simp[this,h6,orD]
     .have:decide (((u0t t).size:Int) >3008 - (u0c d a).2.1)=false:=by simp;omega
      simp only[this,Aa,r0r d (u0f a+1) (u0c d a).2.1 (u0t t) (by omega) (by omega),zOb];rw[Ao (by simp[h2,h3,h6];omega)]
theorem p7e(t:Hs)(ht:t.size<=1048576):t5k t=some (if 20000<t.size then(emp,false) else(u0t t,true)):=by
 rw[p9m];unfold q0x;have e1:decide ((t.size:Int) >(20000:Int))=decide (20000<t.size):=by simp only[Cu];omega
 rw[e1];by_cases h:20000<t.size
 .simp only[h,Ae,Ad,Bl];rfl
 .have c:decide ((y7s (s9k t.size)).size+t.size<=140737488355328)=true:=by
   rw[u6c];have:=j8f t.size;simp;omega
  have hv:(0:Int)<=(t.size:Int)/\(t.size:Int)<=1000000000:=by omega
  simp only[h,Ah,Aa,q4k,Al hv,zOb,zTn,c,Ad,Bk];rfl
theorem o8h(d:u0j)(a:Int)(t:Hs)(hd:c2e.wt d<=10000000)(ht:t.size<=1048576):s63 (d,a,t)=some (orD d (if u2k d then t1k d a t else none)):=by
 have hr:=q0a d a;have hs:=s76 t;have ha:=s3n a;have hcl:=r68 d a;rw[o59];unfold q9i t1k;simp only[r9f d a (by omega),u9j d (by unfold u0i;omega),s7j d a (by unfold u0i;omega),p5x d (by omega),p7e t ht,s6a,zOb,r4n];cases hl:u2k d with
 |false=>simp[orD]|true=>
  cases h1:(u0c d a).2.2 with
  |false=>simp[orD]|true=>
   by_cases h0:20000<t.size
   .have:3008<t.size:=by omega
    simp[h0,this,orD]
   .by_cases h2:t.size=0
    .simp[h0,h2,orD]
    .have w1:i64.wrap ((u0c d a).2.1+((u0t t).size:Int))=(u0c d a).2.1+((u0t t).size:Int):=y5f (by omega) (by omega);have w2:i64.wrap (u0f a+1)=u0f a+1:=y5f (by omega) (by omega);simp only[h0,h2,Bk,Ah,Ap,Aa,zOb,w1,w2,Bl];by_cases h6:3008<(u0c d a).2.1+((u0t t).size:Int)
     .have:decide ((u0c d a).2.1+((u0t t).size:Int) >3008)=true:=by simpa using h6
      simp[this,h6,orD]
     .have e6:decide ((u0c d a).2.1+((u0t t).size:Int) >3008)=false:=by simp;omega
      have h3: ¬3008<t.size:=by omega
      by_cases h4:255<=u0z d a
      .have:decide (u0z d a=255)=true:=by simp;omega
       simp[e6,this,h4,orD]
      .have e4:decide (u0z d a=255)=false:=by simp;omega
       simp only[e6,Aa,e4,zOb,r0q d (u0f a+1) (u0c d a).2.1 (u0t t) (by omega) (by omega) (j6z t h2)];rw[Ao (by simp[h2,h3,h6];omega)]
def s0a(n:Int):Hs:=y7s [u8.wrap n]
theorem u20(n:Int):(s0a n).size=1:=by unfold s0a;rw[u6c];rfl
def r3p(d:u0j)(a n:Int):Ht u0j:=u7l d (u0f a) 0 (s0a n)
theorem p18(d:u0j)(a n:Int)(hd:c2e.wt d<=1073741824):t8b (d,a,n)=some (orD d (r3p d a n)):=by
 rw[o3q];unfold q51;have h1:s5e n=some (s0a n):=by rw[p4l];rfl
 simp only[s6b,h1,zOb,r0r d (u0f a) 0 (s0a n) hd (by rw[u20];omega)];rfl
theorem p2d(d:u0j)(a n:Int)(hd:c2e.wt d<=1073741824):t78 (d,a,n)=some (orD d (r3p d a n)).1:=by
 rw[o20];unfold q5c;have h1:y7s [u8.wrap n] =s0a n:=rfl;simp only[s6a,h1,zOb,r0q d (u0f a) 0 (s0a n) hd (by rw[u20];omega) (by rw[u20];omega)];rfl
theorem d2e:∀ {f:Nat} {d x:u0j} {k at_:Nat} {t:Hs},o0q f d k at_ t=some x->(u1v d=true->u1v x=true)/\x.1=d.1/\(t.size≠0->0<f->u1v x=true)
 |0,d,x,k,at_,t,h=>by cases h;exact⟨id,rfl,fun _ h=>by omega⟩
 |f+1,d,x,k,at_,t,h=>by
  rw[o0q]at h;split at h
  .rename_i hz;cases h;exact⟨id,rfl,fun hne=>absurd hz hne⟩
  .split at h
   .cases hw:u61 d (k:Int) ((u0l d (k:Int)).1.extract 0 at_++t.extract 0 (min t.size (64 - at_))++(u0l d (k:Int)).1.extract (at_+min t.size (64 - at_)) 64) with
    |none=>rw[hw]at h;cases h|some y=>
     rw[hw]at h;simp only[zOb]at h;obtain⟨k1,k2⟩:=t8l hw;obtain⟨i1,i2,_⟩:=d2e h;exact⟨fun _=>i1 k1,by rw[i2,k2],fun _ _=>i1 k1⟩
   .cases h
theorem t06{d x:u0j}{s at_:Int}{t:Hs}(h:u7l d s at_ t=some x):u1v d=true/\u1v x=true/\x.1=d.1:=by
 unfold u7l at h;split at h
 .rename_i hc;simp only[Ai]at hc;obtain⟨i1,i2,_⟩:=d2e h;exact⟨hc.2,i1 hc.2,i2⟩
 .cases h
theorem s4o{d x:u0j}{a:Int}{t:Hs}(h:t1k d a t=some x):u1v d=true/\u1v x=true/\x.1=d.1/\(u0c d a).2.2=true:=by
 unfold t1k at h;split at h
 .cases h
 .rename_i hc;have:=t06 h;simp only[Hr]at hc;exact⟨this.1,this.2.1,this.2.2,by simpa using hc.1⟩
theorem p2c{d:u0j}(hk:u1v d=true)(h2:d.2= []){s:Int}(h0:0<=s)(h1:s<(d.1.length:Int)){b:Hs}(hb:b.size=1):
 u7l d s 0 b=some (d.1, [(s,b++(rdL Ty.str d.1 s.toNat).extract 1 64)]):=by
 obtain⟨k1,k2,k3,k4⟩:=o77.mp hk;have hlt:s.toNat<d.1.length:=by omega
 have hold:(rdL Ty.str d.1 s.toNat).size=64:=by
  have e:rdL Ty.str d.1 s.toNat=d.1[s.toNat] :=y9a (t:=Ty.str) hlt;rw[e];exact k3 _ (Ag hlt)
 have hs:((s.toNat:Nat):Int)=s:=by omega
 have hrd:u0l d s=(rdL Ty.str d.1 s.toNat,true):=by
  unfold u0l;rw[Al ⟨h0,h1⟩,h2];rfl
 have c:(r89 0 0 6400&&r89 s 0 ((d.1.length:Int) - 1)&&u1v d)=true:=by
  rw[hk];simp[r89];omega
 have e1:(rdL Ty.str d.1 s.toNat).extract 0 0=ByteArray.empty:=by
  apply Gf;simp
 have e2:b.extract 0 1=b:=by rw[←hb];exact Fu
 have hw:u61 d s (b++(rdL Ty.str d.1 s.toNat).extract 1 64)=some (d.1, [(s,b++(rdL Ty.str d.1 s.toNat).extract 1 64)]):=by
  unfold u61;rw[r9n,hk,h2];have:r89 s 0 ((d.1.length:Int) - 1)=true:=by simp[r89];omega
  rw[this];have hz:(b++(rdL Ty.str d.1 s.toNat).extract 1 64).size=64:=by
   rw[Af,Bd,hb,hold];omega
  simp[hz]
 unfold u7l;rw[Al c];have z:(0:Int).toNat=0:=rfl;simp only[z,Nat.zero_div,Nat.zero_mod,Df,hb];rw[o0q,Ao (by omega)];rw[hs,hrd];simp only[hold,and_self,Bl,hb];have m1:min 1 (64 - 0)=1:=by decide
 rw[m1,e1,e2];have e3:ByteArray.empty++b++(rdL Ty.str d.1 s.toNat).extract (0+1) 64=b++(rdL Ty.str d.1 s.toNat).extract 1 64:=by
  rw[ByteArray.empty_append]
 rw[e3,hw];simp only[zOb];exact j1s _ _ _ _ (by rw[Bd,hb];decide)
def s3p(d:u0j)(a:Int):Int:=i64.wrap (u0z d a+1)
def p42(d:u0j)(a:Int)(t:Hs):Ht u0j:=(t1k d a t).map fun x=>flush (orD (flush x) (r3p (flush x) a (s3p d a))).1
theorem j8x{d x:u0j}{a:Int}{t:Hs}(h:t1k d a t=some x):j07 a=true:=by
 have:=(s4o h).2.2.2;unfold u0c at this;split at this
 .rename_i hc;simp only[Ai]at hc;exact hc.1
 .cases this
theorem p34{d x:u0j}{a n:Int}{t:Hs}(hlen:d.1.length=97)(h:t1k d a t=some x):∃y,r3p (flush x) a n=some y/\u1v y=true/\y.1.length=97:=by
 obtain⟨h1,h2,h3,_⟩:=s4o h;obtain⟨f1,f2,f3⟩:=s2p h2;have hl:(flush x).1.length=97:=by rw[f3,h3];exact hlen
 have ha:=s3n a;have ho:=p2c (s:=u0f a) f1 f2 (by omega) (by rw[hl];omega) (u20 n);have:=t06 ho;exact⟨_,ho,this.2.1,by rw[this.2.2];exact hl⟩
theorem u58{d:u0j}(h:u2k d=true):u1v d=true/\d.1.length=97/\d.2= [] /\(u0c d 0).2.2=true/\(u0c d 1).2.2=true:=by
 unfold u2k at h;simp only[Ai,Ar]at h;obtain⟨⟨⟨⟨a,b⟩,c⟩,e⟩,f⟩:=h;exact⟨a,b,Dk.mp c,e,f⟩
theorem j4e(d:u0j)(a:Int)(t:Hs)(hd:c2e.wt d<=10000000)(ht:t.size<=1048576)(hlen:d.1.length=97):r0a (d,a,t)=some (orD d (p42 d a t)):=by
 rw[j0x];unfold p3t p42;simp only[o39 d a t hd ht,zOb];cases hb:t1k d a t with
 |none=>rfl|some x=>
  have hx:=u2p (s4o hb).2.1;have hf:=u2p (s2p (s4o hb).2.1).1;obtain⟨y,hy,hy2,_⟩:=p34 (n:=s3p d a) hlen hb;have hyw:=u2p hy2;simp only[orD,Ap,Aa,s0n x (by omega),s7k d a (by unfold u0i;omega),zOb,p18 (flush x) a _ (by omega)];have hc:i64.wrap (u0z d a+1)=s3p d a:=rfl;rw[hc,hy];simp only[orD,s0n y (by omega),zOb,Dc,hy]
theorem o5d(d:u0j)(a:Int)(t:Hs)(hd:c2e.wt d<=10000000)(ht:t.size<=1048576):s8t (d,a,t)=some (orD d (if u2k d then p42 d a t else none)):=by
 rw[o0a];unfold q1j;simp only[p5y d (by omega),q74,u9k d (by unfold u0i;omega),zOb];cases hl:u2k d with
 |false=>simp[orD]|true=>
  cases ha:j07 a with
  |false=>
   have hn:p42 d a t=none:=by
    unfold p42;cases hb:t1k d a t with
    |none=>rfl|some x=>rw[j8x hb]at ha;cases ha
   simp[hn,orD]
  |true=>
   simp only[Ap,Aa,zOb,j4e d a t hd ht (u58 hl).2.1,Bl];cases p42 d a t<;>simp[orD]
theorem q8t(d:u0j)(a:Int)(t:Hs)(hd:c2e.wt d<=10000000)(ht:t.size<=1048576):s2t (d,a,t)=some (orD d (if u2k d then p42 d a t else none)):=by
 rw[p9g];unfold q0r;simp only[o8h d a t hd ht,u9j d (by unfold u0i;omega),zOb];cases hl:u2k d with
 |false=>simp[orD]|true=>
  simp only[Bl];unfold p42;cases hb:t1k d a t with
  |none=>simp[orD]|some x=>
   have hx:=u2p (s4o hb).2.1;have hf:=u2p (s2p (s4o hb).2.1).1;obtain⟨y,hy,hy2,_⟩:=p34 (n:=s3p d a) (u58 hl).2.1 hb;have hyw:=u2p hy2;simp only[orD,Ap,Aa,s0m x (by omega),s7j d a (by unfold u0i;omega),zOb,p2d (flush x) a _ (by omega)];have hc:i64.wrap (u0z d a+1)=s3p d a:=rfl;rw[hc,hy];simp only[orD,s0m y (by omega),zOb,Dc,hy]
def append_(d:u0j)(t:Hs):Ht u0j:=if u2k d then p42 d (u0n d) t else none
theorem r5c(d:u0j)(t:Hs)(hd:c2e.wt d<=10000000)(ht:t.size<=1048576):t5q (d,t)=some (orD d (append_ d t)):=by
 rw[p93];unfold q1c append_;simp only[s9q d (by unfold u0i;omega),zOb,o5d d _ t hd ht]
theorem r5b(d:u0j)(t:Hs)(hd:c2e.wt d<=10000000)(ht:t.size<=1048576):t5j (d,t)=some (orD d (append_ d t)):=by
 rw[p88];unfold q0k append_;simp only[s9p d (by unfold u0i;omega),zOb,q8t d _ t hd ht]
theorem j77{d y:u0j}{a:Int}{t:Hs}(hlen:d.1.length=97)(h:p42 d a t=some y):∃x,t1k d a t=some x/\u1v x=true/\u1v y=true/\y.2= [] /\y.1.length=97/\y=flush (orD (flush x) (r3p (flush x) a (s3p d a))).1:=by
 unfold p42 at h;cases hb:t1k d a t with
 |none=>rw[hb]at h;cases h|some x=>
  rw[hb]at h;simp only[Dc,Ac]at h;obtain⟨z,hz,hz2,hz3⟩:=p34 (n:=s3p d a) hlen hb;rw[hz]at h;simp only[orD]at h;obtain⟨f1,f2,f3⟩:=s2p hz2;rw[←h];exact⟨x,rfl,(s4o hb).2.1,f1,f2,by rw[f3];exact hz3,by rw[hz];rfl⟩
def u2v(d:u0j)(t:Hs)(step:Int)(keep:Hu Int)(tear:Int):u0j:=
 match append_ d t with
 |none=>d|some y=>
  if step=0 then t2i (orD d (t1k d (u0n d) t)).1 keep tear
  else if step=1 then t2i (orD (flush (orD d (t1k d (u0n d) t)).1) (r3p (flush (orD d (t1k d (u0n d) t)).1) (u0n d) (s3p d (u0n d)))).1 keep tear
  else y
section
variable {d:u0j} {t:Hs} (hd:c2e.wt d<=10000000) (ht:t.size<=1048576)
include hd ht
omit hd ht in
theorem r3o{y:u0j}(h:append_ d t=some y):u2k d=true/\ ∃x z,t1k d (u0n d) t=some x/\u1v x=true/\u1v (flush x)=true/\r3p (flush x) (u0n d) (s3p d (u0n d))=some z/\u1v z=true/\u1v y=true:=by
 unfold append_ at h;split at h
 .rename_i hl;obtain⟨x,h1,h2,h3,_⟩:=j77 (u58 hl).2.1 h;obtain⟨z,hz,hz2,_⟩:=p34 (n:=s3p d (u0n d)) (u58 hl).2.1 h1;exact⟨hl,x,z,h1,h2,(s2p h2).1,hz,hz2,h3⟩
 .cases h
theorem o5b(step:Int)(keep:Hu Int)(tear:Int):s8s (d,t,step,keep,tear)=some (u2v d t step keep tear):=by
 rw[p96];unfold q1f u2v;simp only[r5c d t hd ht,u9k d (by unfold u0i;omega),s9q d (by unfold u0i;omega),s7k d _ (by unfold u0i;omega),zOb];cases ha:append_ d t with
 |none=>rfl|some y=>
  obtain⟨hl,x,z,hb,k1,k2,hz,k3,k4⟩:=r3o ha;have w1:=u2p k1;have w2:=u2p k2;have w3:=u2p k3;have hc:i64.wrap (u0z d (u0n d)+1)=s3p d (u0n d):=rfl;simp only[orD,Ap,Aa,o39 d _ t hd ht,hb,zOb,q8q x keep tear (by omega),s0n x (by omega),p18 (flush x) _ _ (by omega),hc,hz,q8q z keep tear (by omega)];by_cases h0:step=0
  .simp[h0]
  .by_cases h1:step=1
   .simp[h1]
   .simp[h0,h1]
theorem o5a(step:Int)(keep:Hu Int)(tear:Int):s8j (d,t,step,keep,tear)=some (u2v d t step keep tear):=by
 rw[p9c];unfold q0o u2v;simp only[r5b d t hd ht,u9j d (by unfold u0i;omega),s9p d (by unfold u0i;omega),s7j d _ (by unfold u0i;omega),zOb];cases ha:append_ d t with
 |none=>rfl|some y=>
  obtain⟨hl,x,z,hb,k1,k2,hz,k3,k4⟩:=r3o ha;have w1:=u2p k1;have w2:=u2p k2;have w3:=u2p k3;have hc:i64.wrap (u0z d (u0n d)+1)=s3p d (u0n d):=rfl;simp only[orD,Ap,Aa,o8h d _ t hd ht,hl,Bl,hb,zOb,q8p x keep tear (by omega),s0m x (by omega),p2d (flush x) _ _ (by omega),hc,hz,q8p z keep tear (by omega)];by_cases h0:step=0
  .simp[h0]
  .by_cases h1:step=1
   .simp[h1]
   .simp[h0,h1]
omit ht in
theorem p8c(step:Int)(keep:Hu Int)(tear:Int):c2e.wt (u2v d t step keep tear)<=10000000:=by
 unfold u2v;cases ha:append_ d t with
 |none=>exact hd|some y=>
  obtain⟨hl,x,z,hb,k1,k2,hz,k3,k4⟩:=r3o ha;simp only[hb,orD,hz];split
  .have:=u2p (o9w k1 keep tear).1;omega
  .split
   .have:=u2p (o9w k3 keep tear).1;omega
   .have:=u2p k4;omega
end
theorem p1u{d x:u0j}{k:Int}{s:Hs}(h:u61 d k s=some x){j:Int}(hj:j≠k):u0l x j=u0l d j:=by
 have:=(t8l h).2;subst this;have hne: ¬k=j:=fun z=>hj z.symm
 unfold u0l;simp only[q6v,hne,Bk]
theorem q8c:∀ {f:Nat} {d x:u0j} {k at_:Nat} {t:Hs},o0q f d k at_ t=some x->at_<64-> ∀j:Nat,¬(k<=j/\j*64<k*64+at_+t.size)->u0l x (j:Int)=u0l d (j:Int)
 |0,d,x,k,at_,t,h,_,j,_=>by cases h;rfl
 |f+1,d,x,k,at_,t,h,hat,j,hj=>by
  rw[o0q]at h;split at h
  .cases h;rfl
  .rename_i hz;split at h
   .cases hw:u61 d (k:Int) ((u0l d (k:Int)).1.extract 0 at_++t.extract 0 (min t.size (64 - at_))++(u0l d (k:Int)).1.extract (at_+min t.size (64 - at_)) 64) with
    |none=>rw[hw]at h;cases h|some y=>
     rw[hw]at h;simp only[zOb]at h;have hne:j≠k:=fun z=>hj ⟨by omega,by omega⟩
     rw[←p1u hw (j:=(j:Int)) (by omega)];refine q8c h (by omega) j (fun z=>hj ?_);rw[Bd]at z;omega
   .cases h
theorem j44{s:Hu Hs}{p:Int×Hs}{j:Int}(hp:0<=p.1)(hj0:0<=j)(hj:j.toNat<s.length):rdL Ty.str (s75 s p) j.toNat=if p.1=j then p.2 else rdL Ty.str s j.toNat:=by
 have h' :j.toNat<(s.set p.1.toNat p.2).length:=by rw[Dq];exact hj
 have e1:rdL Ty.str (s.set p.1.toNat p.2) j.toNat=(s.set p.1.toNat p.2)[j.toNat] :=y9a (t:=Ty.str) h';have e2:rdL Ty.str s j.toNat=s[j.toNat] :=y9a (t:=Ty.str) hj;show rdL Ty.str (s.set p.1.toNat p.2) j.toNat=_;rw[e1,e2,List.getElem_set];by_cases e:p.1=j
 .rw[Al (by rw[e]),Al e]
 .rw[Ao (by omega),Ao e]
theorem o8c{j:Int}(hj0:0<=j)(z:Hs):∀(c:Hu (Int×Hs)) (s:Hu Hs) (t:Ht Hs),(∀p∈c,0<=p.1)->j.toNat<s.length->rdL Ty.str s j.toNat=t.getD z->
 rdL Ty.str (c.foldl s75 s) j.toNat=(c.foldl (fun t p=>if p.1=j then some p.2 else t) t).getD z
 |[],s,t,_,_,h=>h|p::c,s,t,hc,hl,h=>by
  rw[Bs,Bs];refine o8c hj0 z c _ _ (fun q hq=>hc q (Bm _ hq)) (by rw[r0i];exact hl) ?_;rw[j44 (hc p (C9 ..)) hj0 hl];split
  .rfl
  .exact h
theorem t71{d:u0j}(hk:u1v d=true)(j:Int):u0l (flush d) j=u0l d j:=by
 obtain⟨_,f2,f3⟩:=s2p hk;obtain⟨k1,k2,k3,k4⟩:=o77.mp hk;unfold u0l;rw[f3];split
 .rename_i hj;have e1:t57 (flush d).2 j=none:=by rw[f2];rfl
  rw[e1];have e2:(flush d).1=d.2.foldl s75 d.1:=by unfold flush;rw[Al hk]
  rw[e2];have:=o8c hj.1 (rdL Ty.str d.1 j.toNat) d.2 d.1 none (fun p hp=>(k4 p hp).1.1) (by omega) rfl;show(rdL Ty.str (d.2.foldl s75 d.1) j.toNat,true)=_;rw[this];rfl
 .rfl
theorem o4w{d d' :u0j}{from_:Int}:∀(m i:Nat) (acc:Hs),(∀q:Nat,i<=q->q<i+m->u0l d' (from_+(q:Int))=u0l d (from_+(q:Int)))->q8n d' from_ m i acc=q8n d from_ m i acc
 |0,i,acc,h=>rfl|m+1,i,acc,h=>by
  unfold q8n;rw[h i (by omega) (by omega)];split
  .exact o4w m (i+1) _ (fun q h1 h2=>h q (by omega) (by omega))
  .rfl
theorem t5y{d d' :u0j}{o:Int}(h:∀q:Nat,q<48->u0l d' (u0f o+(q:Int))=u0l d (u0f o+(q:Int))):u0c d' o=u0c d o:=by
 have h1:t1h d' (u0f o+1) 47=t1h d (u0f o+1) 47:=by
  unfold t1h;rw[Al (by omega),Al (by omega)];refine o4w _ _ _ (fun q _ hq=> ?_);have:=h (q+1) (by simp at hq;omega);rw[show u0f o+1+(q:Int)=u0f o+((q+1:Nat):Int) by omega];exact this
 have h2:u0z d' o=u0z d o:=by
  unfold u0z u48;have:=h 0 (by omega);rw[show u0f o+((0:Nat):Int)=u0f o by omega]at this;rw[this]
 unfold u0c;rw[h1,h2]
def OnlyArea(a:Int)(d d' :u0j):Prop:= ∀j:Nat,¬(u0f a<=(j:Int)/\(j:Int)<u0f a+48)->u0l d' (j:Int)=u0l d (j:Int)
theorem OnlyArea.other{a o:Int}{d d' :u0j}(h:OnlyArea a d d')(ha:a=0\/a=1)(ho:o=1 - a):u0c d' o=u0c d o:=by
 refine t5y (fun q hq=> ?_);have hf:u0f o=1+o*48:=by unfold u0f;rw[Al (d3g.mpr (by omega))]
 have hfa:u0f a=1+a*48:=by unfold u0f;rw[Al (d3g.mpr ha)]
 obtain⟨j,hj⟩:∃j:Nat,u0f o+(q:Int)=(j:Int):=⟨(u0f o+(q:Int)).toNat,by rcases ha with rfl|rfl<;>omega⟩;rw[hj];exact h j (by rcases ha with rfl|rfl<;>omega)
theorem OnlyArea.trans{a:Int}{d d' e:u0j}(h1:OnlyArea a d d')(h2:OnlyArea a d' e):OnlyArea a d e:=fun j hj=>(h2 j hj).trans (h1 j hj)
theorem OnlyArea.flush{a:Int}{d d' :u0j}(h:OnlyArea a d d')(hk:u1v d' =true):OnlyArea a d (flush d'):=fun j hj=>(t71 hk _).trans (h j hj)
theorem q32{d x:u0j}{s at_:Int}{t:Hs}(h:u7l d s at_ t=some x){j:Nat}(hj: ¬(s<=(j:Int)/\(j:Int)*64<s*64+at_+(t.size:Int))):u0l x (j:Int)=u0l d (j:Int):=by
 unfold u7l at h;split at h
 .rename_i hc;simp only[Ai,r89,Ar]at hc;refine q8c h (Ev _ (by omega)) j (fun z=>hj ?_);omega
 .cases h
theorem j8y{d x:u0j}{a:Int}{t:Hs}(h:t1k d a t=some x):OnlyArea a d x:=by
 have h0:=h;unfold t1k at h;split at h
 .cases h
 .rename_i hc;simp only[Hr]at hc;intro j hj;refine q32 h (fun z=>hj ?_);omega
theorem o75{d x:u0j}{a n:Int}(h:r3p d a n=some x):OnlyArea a d x:=by
 intro j hj;refine q32 h (fun z=>hj ?_);rw[u20]at z;omega
theorem d3x{d y:u0j}{a:Int}{t:Hs}(hlen:d.1.length=97)(h:p42 d a t=some y):OnlyArea a d y:=by
 unfold p42 at h;cases hb:t1k d a t with
 |none=>rw[hb]at h;cases h|some x=>
  rw[hb]at h;simp only[Dc,Ac]at h;obtain⟨z,hz,hz2,hz3⟩:=p34 (n:=s3p d a) hlen hb;rw[hz]at h;subst h;exact(((j8y hb).flush (s4o hb).2.1).trans (o75 hz)).flush hz2
structure Mid(o:Int)(x:u0j):Prop where
 ok:u1v x=true
 len:x.1.length=97
 nil:x.2= []
 other:(u0c x o).2.2=true
theorem Mid.isLog{a o:Int}{x:u0j}(h:Mid o x)(ha:a=0\/a=1)(ho:o=1 - a):u2k x=(u0c x a).2.2:=by
 unfold u2k;have hl:decide (x.2.length=0)=true:=by rw[h.nil];rfl
 rw[h.ok,hl];have hlen:decide (x.1.length=97)=true:=by rw[h.len];rfl
 rw[hlen];have hot:=h.other;rcases ha with rfl|rfl
 .have:o=1:=by omega
  subst this;rw[hot];simp
 .have:o=0:=by omega
  subst this;rw[hot];simp
theorem Mid.put{a o:Int}{x y:u0j}{t:Hs}(h:Mid o x)(ha:a=0\/a=1)(ho:o=1 - a)(hp:p42 x a t=some y):Mid o y:=by
 obtain⟨_,_,_,p1,p2,p3,_⟩:=j77 h.len hp;exact⟨p1,p3,p2,by rw[(d3x h.len hp).other ha ho];exact h.other⟩
theorem Mid.record{a o:Int}{x:u0j}{t:Hs}(h:Mid o x)(ha:a=0\/a=1)(ho:o=1 - a):(if u2k x then p42 x a t else none)=p42 x a t:=by
 rw[h.isLog ha ho];cases hr:(u0c x a).2.2 with
 |true=>simp|false=>
  have:p42 x a t=none:=by
   unfold p42;cases hb:t1k x a t with
   |none=>rfl|some z=>rw[(s4o hb).2.2.2]at hr;cases hr
  simp[this]
def r3r(a:Int):Hu Hs->u0j->Ht u0j
 |[],x=>some x|t::l,x=>(p42 x a t).bind (r3r a l)
theorem o79{a o:Int}(ha:a=0\/a=1)(ho:o=1 - a):∀ {l:Hu Hs} {x y:u0j},Mid o x->r3r a l x=some y->Mid o y
 |[],x,y,h,hy=>by cases hy;exact h
 |t::l,x,y,h,hy=>by
  unfold r3r at hy;cases hp:p42 x a t with
  |none=>rw[hp]at hy;cases hy|some z=>
   rw[hp]at hy;exact o79 ha ho (h.put ha ho hp) hy
theorem j32{a o:Int}(ha:a=0\/a=1)(ho:o=1 - a)(d jk:u0j)(hd:c2e.wt d<=10000000)(list:Hu Hs)(hl:list.length<=1048576)(hs:∀t∈list,t.size<=1048576):∀(r i:Nat) (x:u0j),i+r=list.length->Mid o x->
 t0s (d,jk,a,x,list,(list.length:Int),(i:Int))=some (match r3r a (list.drop i) x with
  |some y=> .inl (jk,y)|none=> .inr (d,false))
 |0,i,x,hi,hm=>by
  have:i=list.length:=by omega
  subst this;rw[r4w];simp only[t6f,u0b,Am,Ah,Aa,F5,r3r]
 |r+1,i,x,hi,hm=>by
  have h:i<list.length:=by omega
  have hw:=u2p hm.ok;have hts:=hs list[i] (Ag h);have hr:rdL Ty.str list i=list[i] :=y9a (t:=Ty.str) h;rw[r4w,Ce h];simp only[t6f,u0b,h,Ae,Ad,y8h h,zTn,hr,q8t x a list[i] (by omega) hts,hm.record ha ho,u9j d (by unfold u0i;omega),zOb,r3r];rw[y7x (by omega)];cases hp:p42 x a list[i] with
  |none=>simp[orD]|some y=>
   simp only[orD,Ap,Aa,zOb];exact j32 ha ho d jk hd list hl hs r (i+1) y (by omega) (hm.put ha ho hp)
theorem j35{a o:Int}(ha:a=0\/a=1)(ho:o=1 - a)(jk:u0j)(list:Hu Hs)(hl:list.length<=1048576)(hs:∀t∈list,t.size<=1048576):∀(r i:Nat) (x:u0j),i+r=list.length->Mid o x->
 ∃q,t44 (list,jk,a,x,true,(i:Int))=some (.inl (jk,q))/\(match r3r a (list.drop i) x with
  |some y=>q=(y,true)|none=>q.2=false)
 |0,i,x,hi,hm=>by
  have:i=list.length:=by omega
  subst this;rw[s8z];simp only[t4m,u0b,Am,Ah,Aa,F5,r3r,zOb];exact⟨_,rfl,rfl⟩
 |r+1,i,x,hi,hm=>by
  have h:i<list.length:=by omega
  have hw:=u2p hm.ok;have hts:=hs list[i] (Ag h);have hr:rdL Ty.str list i=list[i] :=y9a (t:=Ty.str) h;rw[s8z,Ce h];simp only[t4m,u0b,h,Ae,Ad,y8h h,zTn,hr,j4e x a list[i] (by omega) hts hm.len,zOb,r3r];rw[y7x (by omega)];cases hp:p42 x a list[i] with
  |none=>
   simp only[orD,Option.bind_none];rw[s8z];simp only[t4m,u0b];cases decide (i+1<list.length)<;>exact⟨_,rfl,rfl⟩
  |some y=>
   simp only[orD,zOb];exact j35 ha ho jk list hl hs r (i+1) y (by omega) (hm.put ha ho hp)
def u7j(d:u0j):Int:=1 - u0n d
theorem s3q(d:u0j):(u7j d=0\/u7j d=1)/\u0n d=1 - u7j d:=by
 unfold u7j;have:=t32 d;omega
def s8h(d:u0j):u0j:=flush (orD d (r3p d (u7j d) 0)).1
def r9q(d:u0j)(l:Hu Hs):Ht u0j:=if u2k d then r3r (u7j d) l (s8h d) else none
def j65(x:u0j):Ht u0j:=u7l x 0 0 (s0a (i64.wrap (u48 x 0+1)))
def r6e(d:u0j)(l:Hu Hs):Ht u0j:=(r9q d l).map fun x=>flush (orD x (j65 x)).1
theorem o1x{d:u0j}(hl:u2k d=true)(a n:Int):∃z,r3p d a n=some z/\u1v z=true/\z.1.length=97:=by
 obtain⟨h1,h2,h3,_⟩:=u58 hl;have ha:=s3n a;have ho:=p2c (s:=u0f a) h1 h3 (by omega) (by omega) (u20 n);have:=t06 ho;exact⟨_,ho,this.2.1,by rw[this.2.2];exact h2⟩
theorem o3w{d:u0j}(hl:u2k d=true):Mid (u0n d) (s8h d):=by
 obtain⟨z,hz,hz2,hz3⟩:=o1x hl (u7j d) 0;obtain⟨a1,a2⟩:=s3q d;obtain⟨h1,h2,h3,h4,h5⟩:=u58 hl;obtain⟨f1,f2,f3⟩:=s2p hz2;have e:s8h d=flush z:=by unfold s8h;rw[hz];rfl
 have hr:(u0c d (u0n d)).2.2=true:=by
  rcases t32 d with h|h<;>rw[h] <;>assumption
 rw[e];exact⟨f1,by rw[f3];exact hz3,f2,by rw[((o75 hz).flush hz2).other a1 a2];exact hr⟩
theorem d17{x:u0j}{o:Int}(h:Mid o x):∃y,j65 x=some y/\u1v y=true:=by
 have ho:=p2c (s:=0) h.ok h.nil (by omega) (by rw[h.len];omega) (u20 (i64.wrap (u48 x 0+1)));exact⟨_,ho,(t06 ho).2.1⟩
section
variable {d:u0j} {l:Hu Hs} (hd:c2e.wt d<=10000000) (hl:l.length<=1048576) (hs:∀t∈l,t.size<=1048576)
include hd hl hs
omit hd hl hs in
theorem d2d:i64.wrap ((1:Int) - u0n d)=u7j d:=by
 unfold u7j;have:=t32 d;rw[y5f (by omega) (by omega)]
omit hd hl hs in
theorem j34{x:u0j}(h:r9q d l=some x):u2k d=true/\Mid (u0n d) x:=by
 unfold r9q at h;split at h
 .rename_i hlo;obtain⟨a1,a2⟩:=s3q d;exact⟨hlo,o79 a1 a2 (o3w hlo) h⟩
 .cases h
theorem o7e:s8q (d,l)=some (orD d (r9q d l)):=by
 rw[p9t];unfold q03 r9q;simp only[p5x d (by omega),u9j d (by unfold u0i;omega),s9p d (by unfold u0i;omega),d2d (d:=d),p2d d _ _ (by omega),zOb];cases hlo:u2k d with
 |false=>simp[orD]|true=>
  obtain⟨z,hz,hz2,hz3⟩:=o1x hlo (u7j d) 0;have hzw:=u2p hz2;obtain⟨a1,a2⟩:=s3q d;have e:flush z=s8h d:=by unfold s8h;rw[hz];rfl
  have L:=j32 a1 a2 d ([], []) hd l hl hs l.length 0 (s8h d) (by omega) (o3w hlo);have L:t0s (d,([], []),u7j d,s8h d,l,(l.length:Int),0)=_:=L;simp only[Ap,Aa,hz,orD,s0m z (by omega),zOb,e,L,Fh,Bl];cases r3r (u7j d) l (s8h d)<;>rfl
theorem j4d(hlo:u2k d=true):∃q,r6a (d,l)=some q/\(match r9q d l with
 |some y=>q=(y,true)|none=>q.2=false):=by
 obtain⟨z,hz,hz2,hz3⟩:=o1x hlo (u7j d) 0;have hzw:=u2p hz2;obtain⟨a1,a2⟩:=s3q d;have e:flush z=s8h d:=by unfold s8h;rw[hz];rfl
 obtain⟨q,L,hq⟩:=j35 a1 a2 ([], []) l hl hs l.length 0 (s8h d) (by omega) (o3w hlo);have L:t44 (l,([], []),u7j d,s8h d,true,0)=_:=L;rw[Fh]at hq;refine⟨q,?_,by unfold r9q;rw[hlo,Al rfl];exact hq⟩;rw[o6z];unfold q99;simp only[s9q d (by unfold u0i;omega),d2d (d:=d),p18 d _ _ (by omega),zOb,hz,orD,s0n z (by omega),e,L]
omit hd hl hs in
theorem j48(x:u0j)(hx:c2e.wt x<=10000000):s8r x=some (orD x (j65 x)).1:=by
 rw[p9y];unfold q08;have h1:y7s [u8.wrap (i64.wrap (u48 x 0+1))] =s0a (i64.wrap (u48 x 0+1)):=rfl;simp only[r5r x 0 (by unfold u0i;omega),zOb,h1,r0q x 0 0 (s0a (i64.wrap (u48 x 0+1))) (by omega) (by rw[u20];omega) (by rw[u20];omega)];rfl
omit hd hl hs in
theorem j9d(x:u0j)(hx:c2e.wt x<=10000000):r6b x=some (orD x (j65 x)):=by
 rw[o60];unfold p0a;have h1:∀n,s5e n=some (s0a n):=fun n=>by rw[p4l];rfl
 simp only[q6e x 0 (by unfold u0i;omega),h1,zOb,r0r x 0 0 (s0a (i64.wrap (u48 x 0+1))) (by omega) (by rw[u20];omega)];rfl
theorem o5h:s8m (d,l)=some (orD d (r6e d l)):=by
 rw[p9n];unfold q0y r6e;simp only[o7e hd hl hs,zOb];cases hf:r9q d l with
 |none=>rfl|some x=>
  obtain⟨hlo,hm⟩:=j34 hf;have hx:=u2p hm.ok;obtain⟨y,hy,hy2⟩:=d17 hm;have hyw:=u2p hy2;simp only[orD,Ap,Aa,j48 x (by omega),hy,zOb,s0m y (by omega),Dc]
theorem o5i:s8v (d,l)=some (orD d (r6e d l)):=by
 rw[o0f];unfold q1o r6e;simp only[p5y d (by omega),u9k d (by unfold u0i;omega),zOb];cases hlo:u2k d with
 |false=>
  have:r9q d l=none:=by unfold r9q;rw[hlo];rfl
  rw[this];rfl
 |true=>
  obtain⟨q,hq,hq2⟩:=j4d hd hl hs hlo;simp only[Ap,Aa,hq,zOb];cases hf:r9q d l with
  |none=>
   rw[hf]at hq2;simp only at hq2;simp only[hq2,Bh,Ad];rfl
  |some x=>
   rw[hf]at hq2;simp only at hq2;subst hq2;obtain⟨_,hm⟩:=j34 hf;have hx:=u2p hm.ok;obtain⟨y,hy,hy2⟩:=d17 hm;have hyw:=u2p hy2;simp only[orD,Ap,Aa,j9d x (by omega),hy,zOb,s0n y (by omega),Dc]
def t7w(d:u0j)(l:Hu Hs)(step:Int)(keep:Hu Int)(tear:Int):u0j:=
 match r9q d l with
 |none=>d|some x=>
  if step=0 then t2i (orD d (r3p d (u7j d) 0)).1 keep tear
  else if step=1 then x
  else if step=2 then t2i (orD x (j65 x)).1 keep tear
  else flush (orD x (j65 x)).1
end
def s9b(s:Hs)(i:Nat):UInt8:=s.data.toList.getD i 0
theorem u8m(a b:Hs)(i:Nat):s9b (a++b) i=if i<a.size then s9b a i else s9b b (i - a.size):=by
 unfold s9b;have hs:a.size=a.data.toList.length:=by simp only[B6];rfl
 rw[Ft,Ha,A5,hs];split
 .rename_i h;rw[Aj h,A5]
 .rename_i h;rw[Aq (Fz h),A5]
theorem u34(a:Hs)(b e i:Nat):s9b (a.extract b e) i=if i<min e a.size - b then s9b a (b+i) else 0:=by
 unfold s9b;have hd:(a.extract b e).data.toList=(a.data.toList.drop b).take (min e a.size - b):=by
  have hs:a.size=a.data.toList.length:=by simp only[B6];rfl
  rw[ByteArray.data_extract];rw[Array.toList_extract,F7];apply Gj;intro n;rw[Ca,Ca,Dg];split<;>split<;>first|rfl|skip
  .rename_i h1 h2;rw[Be (by omega)]
  .rename_i h1 h2;rw[Be (by omega)]
 rw[hd,A5,Ca];split
 .rw[Dg,A5]
 .rfl
theorem p4q{a b:Hs}(hs:a.size=b.size)(h:∀i,i<a.size->s9b a i=s9b b i):a=b:=by
 have ha:a.size=a.data.toList.length:=by simp only[B6];rfl
 have hb:b.size=b.data.toList.length:=by simp only[B6];rfl
 have:a.data.toList=b.data.toList:=by
  apply Gw (by omega);intro i h1 h2;have:=h i (by omega);unfold s9b at this;rw[A5,A5,A4 h1,A4 h2]at this;exact this
 apply Gf;apply Fj;exact this
theorem j1t{d x:u0j}{k:Int}{s:Hs}(h:u61 d k s=some x):u0l x k=(s,true):=by
 obtain⟨h1,h2⟩:=t8l h;obtain⟨_,_,_,h4⟩:=o77.mp h1;subst h2;have:=(h4 (k,s) (by simp)).1;have hk:0<=k/\k<(d.1.length:Int):=this;unfold u0l;simp only[q6v];rw[Al hk];simp
theorem o8y:∀ {f:Nat} {d x:u0j} {k at_:Nat} {t:Hs},o0q f d k at_ t=some x->t.size<f->at_<64-> ∀(j i:Nat),i<64->j<d.1.length->
 s9b (u0l x (j:Int)).1 i=if k*64+at_<=j*64+i/\j*64+i<k*64+at_+t.size then s9b t (j*64+i - (k*64+at_)) else s9b (u0l d (j:Int)).1 i
 |0,d,x,k,at_,t,h,hf,_,j,i,_,_=>by omega
 |f+1,d,x,k,at_,t,h,hf,hat,j,i,hi,hj=>by
  rw[o0q]at h;split at h
  .rename_i hz;cases h;rw[Ao (by omega)]
  .rename_i hz;split at h
   .rename_i hrd;cases hw:u61 d (k:Int) ((u0l d (k:Int)).1.extract 0 at_++t.extract 0 (min t.size (64 - at_))++(u0l d (k:Int)).1.extract (at_+min t.size (64 - at_)) 64) with
    |none=>rw[hw]at h;cases h|some y=>
     rw[hw]at h;simp only[zOb]at h;obtain⟨n,hn⟩:∃n,n=min t.size (64 - at_):=⟨_,rfl⟩;rw[←hn]at h hw;have hyl:y.1.length=d.1.length:=by rw[(t8l hw).2]
     have hsz:(t.extract n t.size).size=t.size - n:=by rw[Bd];omega
     have ih:=o8y h (by omega) (by omega) j i hi (by omega);rw[ih,hsz];by_cases hjk:j=k
     .subst hjk;rw[Ao (by omega),j1t hw];simp only;rw[u8m,u8m,u34,u34,u34];simp only[Af,Bd,hrd.2];by_cases h1:i<at_
      .have e1:i<min at_ 64 - 0:=by omega
       rw[Al (by omega),Al e1,Al e1,Ao (by omega),Co]
      .by_cases h2:i<at_+n
       .rw[Al (by omega),Ao (by omega),Al (by omega),Al (by omega)];congr 1;omega
       .rw[Ao (by omega),Al (by omega),Ao (by omega)];congr 1;omega
     .have hfr:u0l y (j:Int)=u0l d (j:Int):=p1u hw (by omega);rw[hfr];by_cases h1:(k+1)*64+0<=j*64+i/\j*64+i<(k+1)*64+0+(t.size - n)
      .rw[Al h1,Al (by omega),u34,Al (by omega)];congr 1;omega
      .rw[Ao h1,Ao (by omega)]
   .cases h
theorem j45(a:Hs):a.size=a.data.toList.length:=by simp only[B6];rfl
theorem p4r{a:Hs}{i:Nat}(h:i<a.size):a.data.toList[i]? =some (s9b a i):=by
 unfold s9b;rw[j45]at h;rw[A5,A4 h];rfl
theorem o45:∀ {f i n:Nat} {l l' :Hu UInt8} {v k:Nat},q0g f i n l=some (v,k)->(∀q,q<k - i->l'[q]? =l[q]?)->q0g f i n l' =some (v,k)
 |0,_,_,_,_,_,_,h,_=>by cases h
 |_+1,_,_, [],_,_,_,h,_=>by cases h
 |f+1,i,n,b::l,l',v,k,h,hl=>by
  have hk:=(j1r _ _ _ _ _ _ h).2.2;have h0:=hl 0 (by omega);cases l' with
  |nil=>simp at h0|cons b' l' =>
   simp only[Bt,Ac]at h0;subst h0;simp only[q0g]at h⊢;split at h
   .rename_i h1;rw[Al h1];exact h
   .rename_i h1;rw[Ao h1];exact o45 h (fun q hq=>by have:=hl (q+1) (by omega);simpa using this)
theorem j1j{T T' :Hs}{at_:Int}(h:(u0w T at_).2.2=true)(hs:T'.size=T.size)(hb:∀q:Nat,(q:Int)<(u0w T at_).2.1->s9b T' q=s9b T q):u0w T' at_=u0w T at_:=by
 have hok:=s3t h;unfold u0w at h hb hok⊢;split at h
 .rename_i hc;rw[Al hc]at hb hok;rw[Al (by rw[hs];exact hc),Al hc];cases hv:q0g 5 0 0 (T.data.toList.drop at_.toNat) with
  |none=>rw[hv]at h;cases h|some r=>
   obtain⟨v,k⟩:=r;rw[hv]at hb hok;simp only[p5g]at hb hok;rw[o45 hv (fun q hq=>by
    have hlt:at_.toNat+q<T.size:=by omega
    rw[Dg,Dg,p4r (by omega),p4r hlt,hb (at_.toNat+q) (by omega)])]
 .cases h
theorem p1g{T:Hs}{at_:Int}(h:(u0p T at_).2.2=true):0<=at_/\at_<(u0p T at_).2.1/\(u0p T at_).2.1<=T.size:=by
 have h2:=q68 h;unfold u0p at h h2⊢;split at h
 .rename_i hc;rw[Al hc]at h2;rw[Al hc];have:=s3t hc.1;simp only at h2⊢;omega
 .cases h
theorem o4p{T T' :Hs}{at_:Int}(h:(u0p T at_).2.2=true)(hs:T'.size=T.size)(hb:∀q:Nat,(q:Int)<(u0p T at_).2.1->s9b T' q=s9b T q):u0p T' at_=u0p T at_:=by
 have hn:=p1g h;unfold u0p at h hb hn⊢;split at h
 .rename_i hc;rw[Al hc]at hb hn;simp only at hb hn;have hok:=s3t hc.1;have e:u0w T' at_=u0w T at_:=j1j hc.1 hs (fun q hq=>hb q (by omega));rw[e,Al (by rw[hs];exact hc),Al hc];congr 1;apply p4q
  .rw[Bd,Bd,hs]
  .intro i hi;rw[Bd]at hi;rw[u34,u34,hs];split
   .exact hb _ (by omega)
   .rfl
 .cases h
theorem o70{T:Hs}:∀ {m:Nat} {at_:Int} {acc l:Hu Hs} {E:Int},u9b T m at_ acc=(l,E,true)->at_<=E
 |0,at_,acc,l,E,h=>by unfold u9b at h;cases h;exact Bv _
 |m+1,at_,acc,l,E,h=>by
  unfold u9b at h;split at h
  .rename_i hc;simp only[Ai]at hc;have h1:=(p1g hc.1).2.1;have h2:=o70 h;omega
  .cases h
theorem q56{T T' :Hs}(hs:T'.size=T.size):∀ {m:Nat} {at_:Int} {acc l:Hu Hs} {E:Int},u9b T m at_ acc=(l,E,true)->(∀q:Nat,(q:Int)<E->s9b T' q=s9b T q)->u9b T' m at_ acc=(l,E,true)
 |0,at_,acc,l,E,h,_=>by unfold u9b at h⊢;exact h
 |m+1,at_,acc,l,E,h,hb=>by
  unfold u9b at h⊢;split at h
  .rename_i hc;have hc' :=hc;simp only[Ai]at hc';have h2:=o70 h;rw[o4p hc'.1 hs (fun q hq=>hb q (by omega)),Al hc];exact q56 hs h hb
  .cases h
theorem o1s{T:Hs}{s:Hs}{nx:Int}:∀ {m:Nat} {at_:Int} {acc l:Hu Hs} {E:Int},u9b T m at_ acc=(l,E,true)->u0p T E=(s,nx,true)->s.size≠0->u9b T (m+1) at_ acc=(l++ [s],nx,true)
 |0,at_,acc,l,E,h,hr,hne=>by
  unfold u9b at h;cases h;unfold u9b;have:z7q s emp=false:=by
   have:=r4n (t:=s);rw[d08]at this;rw[this];simpa using hne
  rw[hr];simp only[this,Bh,Dt,Bl];rfl
 |m+1,at_,acc,l,E,h,hr,hne=>by
  unfold u9b at h;split at h
  .rename_i hc;unfold u9b;rw[Al hc];exact o1s h hr hne
  .cases h
def u8s(l:Hu Int):Hu UInt8:=l.map fun n=>UInt8.ofNat n.toNat
theorem p66:∀(f i acc n N:Nat) (r:Hu UInt8),0<f->n<128^f->acc+n*128^i=N->N<=1000000000->(s9k N).length=i+(s9k n).length->q0g f i acc (u8s (s9k n)++r)=some (N,i+(s9k n).length)
 |0,i,acc,n,N,r,hf,_,_,_,_=>by omega
 |f+1,i,acc,n,N,r,_,hn,hN,hb,hl=>by
  by_cases h:n<128
  .rw[q7h h] at hl ⊢;have e:(UInt8.ofNat ((n:Int)).toNat).toNat=n:=by
    rw[zTn,Gg];omega
   simp only[u8s,C8,Eh,Ef,Cf,q0g,e,h,Bl,Aw]at hl⊢;rw[Nat.mod_eq_of_lt h,hN,Al ⟨hb,hl⟩]
  .rw[p65 h] at hl ⊢;have e:(UInt8.ofNat (((n % 128+128:Nat):Int)).toNat).toNat=n % 128+128:=by
    rw[zTn,Gg];omega
   have hh: ¬n % 128+128<128:=by omega
   simp only[u8s,C8,Ef,q0g,e,hh,Bk,Bc]at hl⊢;have e2:(n % 128+128) % 128=n % 128:=by omega
   rw[e2];have:=p66 f (i+1) (acc+n % 128*128^i) (n / 128) N r (by rcases f with _|f<;>simp at hn⊢;omega) (by rw[Gr]at hn;omega) (by
    rw[←hN,Gr];have:n=n % 128+128*(n / 128):=by omega
    conv=>rhs;rw[this]
    rw[Cl];have:n / 128*(128^i*128)=128*(n / 128)*128^i:=by rw[Fk (128^i) 128,←Nat.mul_assoc,Fk (n / 128) 128]
    omega) hb (by omega)
   show q0g f (i+1) (acc+n % 128*128^i) (u8s (s9k (n / 128))++r)=_;rw[this];congr 2;omega
theorem r2j(l:Hu Int):(y7s l).data.toList=u8s l:=by
 unfold y7s u8s;simp
theorem p60{T t:Hs}{E:Nat}(h0:t.size≠0)(h1:t.size<=3008)(hE:E+(u0t t).size<=T.size)(hb:∀q,q<(u0t t).size->s9b T (E+q)=s9b (u0t t) q):
 u0p T (E:Int)=(t,((E+(u0t t).size:Nat):Int),true):=by
 have hsz:(u0t t).size=(s9k t.size).length+t.size:=by unfold u0t;rw[Af,u6c]
 have hlist:(u0t t).data.toList=u8s (s9k t.size)++t.data.toList:=by
  unfold u0t;rw[Ft,Ha,r2j]
 have hdrop:∃r,T.data.toList.drop E=u8s (s9k t.size)++r:=by
  refine⟨(T.data.toList.drop E).drop (u8s (s9k t.size)).length,?_⟩;have:(T.data.toList.drop E).take (u8s (s9k t.size)).length=u8s (s9k t.size):=by
   apply Gj;intro q;rw[Ca];split
   .rename_i hq;have hq' :q<(s9k t.size).length:=by simpa[u8s]using hq
    rw[Dg,p4r (by omega),hb q (by omega),←p4r (by omega),hlist,Aj hq]
   .rename_i hq;rw[Be (Fz hq)]
  conv=>lhs;rw[←En (u8s (s9k t.size)).length (T.data.toList.drop E)]
  rw[this]
 obtain⟨r,hr⟩:=hdrop;have hv:=p66 5 0 0 t.size t.size r (by omega) (by omega) (by simp) (by omega) (by omega);have hread:u0w T (E:Int)=((t.size:Int),(E:Int)+((s9k t.size).length:Int),true):=by
  unfold u0w;rw[Al (by omega),zTn,hr,hv];simp[p5g]
 unfold u0p;rw[hread];simp only;rw[Al (by simp only[true_and];omega)];have e1:((E:Int)+((s9k t.size).length:Int)).toNat=E+(s9k t.size).length:=by omega
 have e2:((E:Int)+((s9k t.size).length:Int)+(t.size:Int)).toNat=E+(s9k t.size).length+t.size:=by omega
 rw[e1,e2];have et:T.extract (E+(s9k t.size).length) (E+(s9k t.size).length+t.size)=t:=by
  apply p4q
  .rw[Bd];omega
  .intro i hi;rw[Bd]at hi;rw[u34,Al (by omega)];have:=hb ((s9k t.size).length+i) (by omega);rw[show E+(s9k t.size).length+i=E+((s9k t.size).length+i) by omega,this];unfold u0t;rw[u8m,Ao (by rw[u6c];omega),u6c];congr 1;omega
 rw[et];congr 2;rw[hsz];omega
def c18(d:u0j):Prop:= ∀k:Nat,k<97->(u0l d (k:Int)).2=true/\(u0l d (k:Int)).1.size=64
theorem r03{d:u0j}(hk:u1v d=true)(hl:d.1.length=97):c18 d:=by
 intro k hlt;obtain⟨k1,k2,k3,k4⟩:=o77.mp hk;have hc:(0:Int)<=(k:Int)/\(k:Int)<(d.1.length:Int):=by omega
 unfold u0l;rw[Al hc];refine⟨rfl,?_⟩;cases hp:t57 d.2 (k:Int) with
 |none=>
  have hlt' :k<d.1.length:=by omega
  have e:rdL Ty.str d.1 k=d.1[k] :=y9a (t:=Ty.str) hlt';simp only[Eo,zTn];rw[e];exact k3 _ (Ag hlt')
 |some s=>
  obtain⟨p,hp1,hp2⟩:=p19 hp;simp only[Eb];rw[←hp2];exact(k4 p hp1).2
theorem o4v{d:u0j}{F:Nat}(h:∀q:Nat,q<47->(u0l d ((F+q:Nat):Int)).2=true/\(u0l d ((F+q:Nat):Int)).1.size=64):∀(m i:Nat) (acc:Hs),i+m<=47->
 ∃T,q8n d (F:Int) m i acc=(T,true)/\T.size=acc.size+64*m/\ ∀j,j<T.size->s9b T j=if j<acc.size then s9b acc j else s9b (u0l d ((F+i+(j - acc.size) / 64:Nat):Int)).1 ((j - acc.size) % 64)
 |0,i,acc,_=>⟨acc,rfl,by omega,fun j hj=>by rw[Al hj]⟩|m+1,i,acc,hm=>by
  have hq:=h i (by omega);have e:(F:Int)+(i:Int)=((F+i:Nat):Int):=by omega
  obtain⟨T,t1,t2,t3⟩:=o4v h m (i+1) (acc++(u0l d ((F+i:Nat):Int)).1) (by omega);refine⟨T,?_,?_,fun j hj=> ?_⟩
  .unfold q8n;rw[e,Al hq.1];exact t1
  .rw[t2,Af,hq.2];omega
  .rw[t3 j hj,Af,hq.2,u8m];by_cases h1:j<acc.size
   .rw[Al (by omega),Al h1,Al h1]
   .rw[Ao h1,Ao h1];by_cases h2:j<acc.size+64
    .rw[Al h2];have z1:(j - acc.size) / 64=0:=by omega
     have z2:(j - acc.size) % 64=j - acc.size:=by omega
     rw[z1,z2,Df]
    .rw[Ao h2];have z1:F+(i+1)+(j - (acc.size+64)) / 64=F+i+(j - acc.size) / 64:=by omega
     have z2:(j - (acc.size+64)) % 64=(j - acc.size) % 64:=by omega
     rw[z1,z2]
def s9a(a:Int):Nat:=(u0f a+1).toNat
def r9l(d:u0j)(a:Int):Hs:=(t1h d (u0f a+1) 47).1
theorem u8b{d:u0j}(hf:c18 d){a:Int}(ha:a=0\/a=1):t1h d (u0f a+1) 47=(r9l d a,true)/\(r9l d a).size=3008/\ ∀j,j<3008->s9b (r9l d a) j=s9b (u0l d ((s9a a+j / 64:Nat):Int)).1 (j % 64):=by
 have hfa:u0f a=1+a*48:=by unfold u0f;rw[Al (d3g.mpr ha)]
 have hF:(u0f a+1:Int)=((s9a a:Nat):Int):=by unfold s9a;rcases ha with rfl|rfl<;>omega
 have hb:s9a a+47<=97:=by unfold s9a;rcases ha with rfl|rfl<;>omega
 obtain⟨T,t1,t2,t3⟩:=o4v (d:=d) (F:=s9a a) (fun q hq=>hf (s9a a+q) (by omega)) 47 0 emp (by omega);have he:emp.size=0:=rfl;have hs:t1h d (u0f a+1) 47=(T,true):=by
  unfold t1h;rw[Al (by omega),hF];exact t1
 have hT:r9l d a=T:=by unfold r9l;rw[hs]
 rw[hT];rw[he]at t2 t3;refine⟨hs,by omega,fun j hj=> ?_⟩;rw[t3 j (by omega),Ao (by omega),Df,Nat.sub_zero]
theorem t4e{d:u0j}(hf:c18 d){a:Int}(ha:a=0\/a=1):u0c d a=u9b (r9l d a) (u0z d a).toNat 0 [] :=by
 have h:=(u8b hf ha).1;have hi:j07 a=true:=d3g.mpr ha;unfold u0c;rw[h,hi];rfl
theorem j7l{a b:Hs}(h:a.data.toList=b.data.toList):a=b:=by
 apply Gf;exact Array.toList_inj.mp h
theorem o1t(a b:Hs):(a++b).data.toList=a.data.toList++b.data.toList:=by rw[Ft,Ha]
theorem t1z(a b c:Hs):a++b++c=a++(b++c):=j7l (by simp only[o1t,Bi])
theorem j6i(a:Hs):emp++a=a:=j7l (by rw[o1t];rfl)
theorem j57(a:Hs):a++emp=a:=j7l (by rw[o1t];simp[emp])
theorem p1x(a:Hs):a.size=a.data.toList.length:=j45 a
def q7i(n:Int):Hs:=y7s (s9k n.toNat)
def j58(b:Bool):Hs:=y7s [if b then 1 else 0]
def q35{E:Type}(f:E->Hs)(l:Hu E):Hs:=l.foldl (fun s x=>s++f x) emp
def j5m(r:s3z):Hs:=u0t r.1++u0t r.2
def wrT(w:WrT):Hs:=u0t w.1++(u0t w.2.1++j58 w.2.2)
def j5c(v:u2u):Hs:=u0t v.1++(u0t v.2.1++(j58 v.2.2.1++q7i v.2.2.2))
def t8i(t:u0e):Hs:=
 q7i t.1++(q7i t.2.1++(q7i t.2.2.1++(q7i t.2.2.2.1++(q7i (t.2.2.2.2.1.length:Int)++(q35 j5m t.2.2.2.2.1++(q7i (t.2.2.2.2.2.1.length:Int)++(q35 wrT t.2.2.2.2.2.1++(j58 t.2.2.2.2.2.2.1++u0t t.2.2.2.2.2.2.2))))))))
def r8e(l:Hu u0e):Hs:=q7i (l.length:Int)++q35 t8i l
def s7l(b:u0m):Hs:=q7i b.2.2.2.1++(q7i b.2.2.2.2++(q7i (b.1.length:Int)++(q35 j5c b.1++(r8e b.2.1++r8e b.2.2.1))))
theorem p32{E:Type}(f:E->Hs):∀(l:Hu E) (s:Hs),l.foldl (fun s x=>s++f x) s=s++q35 f l
 |[],s=>(j57 s).symm|x::l,s=>by
  rw[Bs,p32 f l];unfold q35;rw[Bs,p32 f l (emp++f x),j6i,t1z];rfl
theorem r00{E:Type}(f:E->Hs)(x:E)(l:Hu E):q35 f (x::l)=f x++q35 f l:=by
 unfold q35;rw[Bs,p32,j6i];rfl
theorem o9t{E:Type}(f:E->Hs):q35 f [] =emp:=rfl
def s0o(T:Hs)(a:Nat)(s:Hs):Prop:= ∃r,T.data.toList.drop a=s.data.toList++r
theorem d7v{T:Hs}{a:Nat}{s u:Hs}:s0o T a (s++u)↔s0o T a s/\s0o T (a+s.size) u:=by
 unfold s0o;rw[o1t,p1x s];constructor
 .rintro⟨r,h⟩
  refine⟨⟨u.data.toList++r,by rw[h,Bi]⟩,r,?_⟩;rw[←Gl,h,Bi,Hg]
 .rintro⟨⟨r,h⟩,r',h'⟩
  rw[←Gl,h,Hg]at h';exact⟨r',by rw[h,h',Bi]⟩
theorem p49{T:Hs}{a:Nat}{s:Hs}(h:s0o T a s)(hs:s.size≠0):a+s.size<=T.size:=by
 obtain⟨r,h⟩:=h;have:=Dj List.length h;rw[F0,Ba,←p1x,←p1x]at this;omega
theorem j9p{a s b:Hs}:s0o (a++s++b) a.size s:=⟨b.data.toList,by rw[o1t,o1t,p1x,Bi,Hg]⟩
theorem r2m(n:Int):(q7i n).size=(s9k n.toNat).length:=u6c _
theorem p5f(n:Nat):0<(s9k n).length:=by
 by_cases h:n<128
 .rw[q7h h];simp
 .rw[p65 h];simp
theorem p1h{T:Hs}{a:Nat}{n:Int}(h0:0<=n)(hn:n<=1000000000)(h:s0o T a (q7i n)):u0w T (a:Int)=(n,((a+(q7i n).size:Nat):Int),true):=by
 have hle:=p49 h (by rw[r2m];have:=p5f n.toNat;omega);obtain⟨r,h⟩:=h;unfold q7i at h;rw[r2j]at h;have hv:=p66 5 0 0 n.toNat n.toNat r (by omega) (by omega) (by simp) (by omega) (by omega);unfold u0w;rw[Al (by omega),zTn,h,hv];simp only[p5g];rw[r2m];congr 1
 .omega
 .congr 1;omega
theorem o0l{T:Hs}{a:Nat}{s:Hs}(hs:s.size<=20000)(h:s0o T a (u0t s)):u0p T (a:Int)=(s,((a+(u0t s).size:Nat):Int),true):=by
 have e:u0t s=q7i (s.size:Int)++s:=rfl;rw[e]at h;obtain⟨h1,h2⟩:=d7v.mp h;have hv:=p1h (by omega) (by omega) h1;have hle1:=p49 h1 (by rw[r2m];have:=p5f (s.size:Int).toNat;omega);unfold u0p;rw[hv];have hle:a+(q7i (s.size:Int)).size+s.size<=T.size:=by
  by_cases q:s.size=0
  .omega
  .exact p49 h2 q
 rw[Al (by simp only[true_and];omega)];have hx:T.extract (((a+(q7i (s.size:Int)).size:Nat):Int)).toNat ((((a+(q7i (s.size:Int)).size:Nat):Int)+(s.size:Int))).toNat=s:=by
  rw[zTn,show(((a+(q7i (s.size:Int)).size:Nat):Int)+(s.size:Int)).toNat=a+(q7i (s.size:Int)).size+s.size by omega];rw[p8f _ _ _ hle];obtain⟨r,hr⟩:=h2;rw[hr,Nat.add_sub_cancel_left,p1x,List.take_left]
 simp only[hx];rw[e,Af];congr 2;omega
abbrev Cur:=Int×Bool
def u22(s:Hs)(c:Cur):Int×Cur:=if c.2=true\/(u0w s c.1).2.2=false then(0,c.1,true) else((u0w s c.1).1,(u0w s c.1).2.1,false)
def u3e(s:Hs)(c:Cur):Hs×Cur:=if c.2=true\/(u0p s c.1).2.2=false then(emp,c.1,true) else((u0p s c.1).1,(u0p s c.1).2.1,false)
def u96(s:Hs)(i:Nat):Nat:=(s.data.toList.getD i 0).toNat
def p5q(s:Hs)(c:Cur):Bool×Cur:=if c.2=true\/ ¬(0<=c.1/\c.1<(s.size:Int))\/1<u96 s c.1.toNat then(false,c.1,true) else(decide (u96 s c.1.toNat=1),c.1+1,false)
def u3h{E:Type}(f:Cur->E×Cur):Nat->Cur->Hu E->Hu E×Cur
 |0,c,a=>(a,c)|n+1,c,a=>if c.2=true then(a,c) else u3h f n (f c).2 (a++ [(f c).1])
def j1f(s:Hs)(c:Cur):s3z×Cur:=(((u3e s c).1,(u3e s (u3e s c).2).1),(u3e s (u3e s c).2).2)
def rWr(s:Hs)(c:Cur):WrT×Cur:=
 (((u3e s c).1,(u3e s (u3e s c).2).1,(p5q s (u3e s (u3e s c).2).2).1),(p5q s (u3e s (u3e s c).2).2).2)
def j1h(s:Hs)(c:Cur):u2u×Cur:=
 let w:=rWr s c
 ((w.1.1,w.1.2.1,w.1.2.2,(u22 s w.2).1),(u22 s w.2).2)
def o0y(m:Nat)(s:Hs)(c:Cur):u0e×Cur:=
 let a:=u22 s c
 let b:=u22 s a.2
 let d:=u22 s b.2
 let e:=u22 s d.2
 let n:=u22 s e.2
 let rs:=u3h (j1f s) (min n.1.toNat m) n.2 []
 let k:=u22 s rs.2
 let ws:=u3h (rWr s) (min k.1.toNat m) k.2 []
 let o:=p5q s ws.2
 let nm:=u3e s o.2
 ((a.1,b.1,d.1,e.1,rs.1,ws.1,o.1,nm.1),nm.2)
theorem t4d{s:Hs}{c:Cur}(h:c.2=true):(u22 s c).2.2=true:=by unfold u22;rw[Al (.inl h)]
theorem r8a{s:Hs}{c:Cur}(h:c.2=true):(u3e s c).2.2=true:=by unfold u3e;rw[Al (.inl h)]
theorem p43{s:Hs}{c:Cur}(h:c.2=true):(p5q s c).2.2=true:=by unfold p5q;rw[Al (.inl h)]
theorem s09{E:Type}{f:Cur->E×Cur}{n:Nat}{c:Cur}{a:Hu E}(h:c.2=true):u3h f n c a=(a,c):=by
 cases n with
 |zero=>rfl|succ n=>simp only[u3h];rw[Al h]
theorem j4v{E:Type}{f:Cur->E×Cur}:∀ {n:Nat} {c:Cur} {a:Hu E},(u3h f n c a).2.2=false->(u3h f n c a).1.length=a.length+n
 |0,c,a,_=>rfl|n+1,c,a,h=>by
  simp only[u3h]at h⊢;split at h
  .rename_i q;rw[q]at h;cases h
  .rename_i q;rw[Ao q,j4v h];simp;omega
theorem u90{s:Hs}{a:Nat}{n:Int}(h0:0<=n)(hn:n<=1000000000)(h:s0o s a (q7i n)):u22 s ((a:Int),false)=(n,((a+(q7i n).size:Nat):Int),false):=by
 unfold u22;rw[p1h h0 hn h,Ao (by simp)]
theorem s3s{s:Hs}{a:Nat}{x:Hs}(hx:x.size<=20000)(h:s0o s a (u0t x)):u3e s ((a:Int),false)=(x,((a+(u0t x).size:Nat):Int),false):=by
 unfold u3e;rw[o0l hx h,Ao (by simp)]
theorem u4b(b:Bool):(j58 b).size=1:=u6c _
theorem p2g{s:Hs}{a:Nat}{b:Bool}(h:s0o s a (j58 b)):p5q s ((a:Int),false)=(b,((a+1:Nat):Int),false):=by
 have hle:=p49 h (by rw[u4b];omega);rw[u4b]at hle;obtain⟨r,hr⟩:=h;unfold j58 at hr;rw[r2j]at hr;have hb:u96 s a=if b then 1 else 0:=by
  unfold u96;have:s.data.toList.getD a 0=(s.data.toList.drop a).getD 0 0:=by
   rw[A5,A5,Dg,Df]
  rw[this,hr];cases b<;>rfl
 unfold p5q;simp only[zTn,hb];rw[Ao]
 .cases b<;>simp
 .rintro(q|q|q)
  .cases q
  .omega
  .cases b<;>simp at q
theorem s74{E:Type}{f:Cur->E×Cur}{g:E->Hs}{s:Hs}:∀ {l:Hu E} {a:Nat} {acc:Hu E},(∀x∈l,∀a:Nat,s0o s a (g x)->f ((a:Int),false)=(x,((a+(g x).size:Nat):Int),false))->
 s0o s a (q35 g l)->u3h f l.length ((a:Int),false) acc=(acc++l,((a+(q35 g l).size:Nat):Int),false)
 |[],a,acc,_,_=>by rw[o9t];simp[u3h,emp,ByteArray.size]
 |x::l,a,acc,hf,h=>by
  rw[r00]at h⊢;obtain⟨h1,h2⟩:=d7v.mp h;have e:=hf x (by simp) a h1;simp only[Bc,u3h];rw[Ao (by simp),e];rw[s74 (l:=l) (fun y hy=>hf y (by simp[hy])) h2,Af];simp[D9]
theorem j6v{s:Hs}{a:Nat}{r:s3z}(h1:r.1.size<=20000)(h2:r.2.size<=20000)(h:s0o s a (j5m r)):j1f s ((a:Int),false)=(r,((a+(j5m r).size:Nat):Int),false):=by
 obtain⟨k1,k2⟩:=d7v.mp h;unfold j1f;rw[s3s h1 k1];simp only;rw[s3s h2 k2];unfold j5m;rw[Af,D9]
theorem o8j{s:Hs}{a:Nat}{w:WrT}(h1:w.1.size<=20000)(h2:w.2.1.size<=20000)(h:s0o s a (wrT w)):rWr s ((a:Int),false)=(w,((a+(wrT w).size:Nat):Int),false):=by
 obtain⟨k1,k2⟩:=d7v.mp h;obtain⟨k2,k3⟩:=d7v.mp k2;unfold rWr;rw[s3s h1 k1];simp only;rw[s3s h2 k2];simp only;rw[p2g k3];unfold wrT;rw[Af,Af,u4b,D9,D9]
theorem j6x{s:Hs}{a:Nat}{v:u2u}(h1:v.1.size<=20000)(h2:v.2.1.size<=20000)(h3:0<=v.2.2.2/\v.2.2.2<=1000000000)(h:s0o s a (j5c v)):j1h s ((a:Int),false)=(v,((a+(j5c v).size:Nat):Int),false):=by
 have e:j5c v=wrT (v.1,v.2.1,v.2.2.1)++q7i v.2.2.2:=by unfold j5c wrT;simp only[t1z]
 rw[e]at h⊢;obtain⟨k1,k2⟩:=d7v.mp h;unfold j1h;rw[o8j (w:=(v.1,v.2.1,v.2.2.1)) h1 h2 k1];simp only;rw[u90 h3.1 h3.2 k2,Af,D9]
theorem TxnR.small{t:u0e}(h:TxnR t):(∀r∈t.2.2.2.2.1,r.1.size<=3/\r.2.size<=3)/\(∀w∈t.2.2.2.2.2.1,w.1.size<=3/\w.2.1.size<=12)/\t.2.2.2.2.2.2.2.size<=3/\t.2.2.2.2.2.1.length<=8/\0<=t.2.2.2.1/\t.2.2.2.1<=9999:=by
 obtain⟨w1,w2,w3⟩:=d5c.mp h.ws;refine⟨fun r hr=> ?_,fun w hw=> ?_,?_,w3,?_⟩
 .have:=h.rs r hr;unfold u3f at this;rw[Ai,Ai]at this;exact⟨(u2z this.1).2,(u2z this.2.1).2⟩
 .have:=w1 w hw;unfold u4i at this;rw[Ai,Ai,Ar]at this;exact⟨(u2z this.1).2,this.2.1⟩
 .by_cases e:t.2.1=2
  .exact(u2z (h.name e)).2
  .rw[h.noname e];omega
 .by_cases e:t.2.1=3
  .have:=h.done e;have:=h.snap;omega
  .rw[h.nocs e];omega
theorem j6w{s:Hs}{a:Nat}{t:u0e}{m:Nat}(hm:8<=m)(ht:TxnR t)(h:s0o s a (t8i t)):o0y m s ((a:Int),false)=(t,((a+(t8i t).size:Nat):Int),false):=by
 obtain⟨z1,z2,z3,z4,z5⟩:=ht.small;have hi:=ht.id;have hst:=ht.st;have hsn:=ht.snap;have hrl:=ht.rlen;unfold t8i at h⊢;obtain⟨k1,h⟩:=d7v.mp h;obtain⟨k2,h⟩:=d7v.mp h;obtain⟨k3,h⟩:=d7v.mp h;obtain⟨k4,h⟩:=d7v.mp h;obtain⟨k5,h⟩:=d7v.mp h;obtain⟨k6,h⟩:=d7v.mp h;obtain⟨k7,h⟩:=d7v.mp h;obtain⟨k8,h⟩:=d7v.mp h;obtain⟨k9,k10⟩:=d7v.mp h;unfold o0y;rw[u90 (by omega) (by omega) k1];simp only;rw[u90 (by omega) (by omega) k2];simp only;rw[u90 (by omega) (by omega) k3];simp only;rw[u90 (by omega) (by omega) k4];simp only;rw[u90 (by omega) (by omega) k5];simp only;rw[show min ((t.2.2.2.2.1.length:Int)).toNat m=t.2.2.2.2.1.length by omega,s74 (g:=j5m) (fun r hr a hs=>j6v (by have:=(z1 r hr).1;omega) (by have:=(z1 r hr).2;omega) hs) k6];simp only;rw[u90 (by omega) (by omega) k7];simp only;rw[show min ((t.2.2.2.2.2.1.length:Int)).toNat m=t.2.2.2.2.2.1.length by omega,s74 (g:=wrT) (fun w hw a hs=>o8j (by have:=(z2 w hw).1;omega) (by have:=(z2 w hw).2;omega) hs) k8]
 simp only;rw[p2g k9];simp only;rw[u4b]at k10;rw[s3s (by omega) k10];simp only[Cf,Af,u4b];simp only[D9]
def u83(m:Nat)(s:Hs)(c:Cur):u0e×Cur:=((o0y m s c).1,(o0y m s c).2.1,(o0y m s c).2.2 || !u93 (o0y m s c).1)
def t5r(m k:Nat)(s:Hs)(c:Cur):Hu u0e×Cur:=u3h (u83 m s) (min (u22 s c).1.toNat k) (u22 s c).2 []
structure Lim where
 t:Nat
 v:Nat
 p:Nat
 r:Nat
def r79(m:Lim)(s:Hs)(c:Cur):u0m×Cur:=
 let a:=u22 s c
 let b:=u22 s a.2
 let n:=u22 s b.2
 let vs:=u3h (j1h s) (min n.1.toNat m.v) n.2 []
 let ps:=t5r m.t m.p s vs.2
 let rs:=t5r m.t m.r s ps.2
 ((vs.1,ps.1,rs.1,a.1,b.1),rs.2)
theorem d1l{m:Nat}{s:Hs}{c:Cur}(h:c.2=true):(u83 m s c).2.2=true:=by
 have:(o0y m s c).2.2=true:=by
  unfold o0y;have h1:=t4d (s:=s) h;have h2:=t4d (s:=s) h1;have h3:=t4d (s:=s) h2;have h4:=t4d (s:=s) h3;have h5:=t4d (s:=s) h4;simp only;rw[s09 h5];have h6:=t4d (s:=s) h5;simp only;rw[s09 h6];exact r8a (p43 h6)
 unfold u83;simp only[this,Dx]
theorem q77{E:Type}{f:Cur->E×Cur}{n k:Nat}{c:Cur}(hk:k<=n):(u3h f n c []).2.2=true\/k<=(u3h f n c []).1.length:=by
 cases h:(u3h f n c []).2.2 with
 |true=>exact .inl rfl|false=>rw[j4v h];exact .inr (by simp;exact hk)
theorem o4h{m m' :Nat}(hm:9<=m)(hm' :9<=m'){s:Hs}{c:Cur}(h:(u83 m s c).2.2=false):u83 m' s c=u83 m s c:=by
 have hb:(o0y m s c).2.2=false/\u93 (o0y m s c).1=true:=by
  unfold u83 at h;simp only[Es,Bool.not_eq_false']at h;exact h
 have hR:=p5c.mp hb.2;have hw:=(d5c.mp hR.ws).2.2
 suffices e:o0y m' s c=o0y m s c by unfold u83;rw[e]
 have b1:=hb.1;have hr:=hR.rlen;unfold o0y at b1 hr hw⊢;simp only at b1 hr hw⊢;generalize hn:u22 s (u22 s (u22 s (u22 s (u22 s c).2).2).2).2=n at b1 hr hw⊢;have k1:n.1.toNat<=8\/(u3h (j1f s) (min n.1.toNat m) n.2 []).2.2=true:=by
  rcases B8 8 n.1.toNat with q|q
  .rcases q77 (f:=j1f s) (n:=min n.1.toNat m) (k:=9) (c:=n.2) (by omega)with z|z
   .exact .inr z
   .omega
  .exact .inl q
 have k1:n.1.toNat<=8:=k1.resolve_right fun k1=>by
  have h1:=t4d (s:=s) k1;rw[s09 h1]at b1;rw[r8a (p43 h1)]at b1;cases b1
 have e1:min n.1.toNat m=min n.1.toNat m' :=by omega
 rw[e1]at b1 hw⊢;generalize hk:u22 s (u3h (j1f s) (min n.1.toNat m') n.2 []).2=k at b1 hw⊢;have k2:k.1.toNat<=8\/(u3h (rWr s) (min k.1.toNat m) k.2 []).2.2=true:=by
  rcases B8 8 k.1.toNat with q|q
  .rcases q77 (f:=rWr s) (n:=min k.1.toNat m) (k:=9) (c:=k.2) (by omega)with z|z
   .exact .inr z
   .omega
  .exact .inl q
 have k2:k.1.toNat<=8:=k2.resolve_right fun k2=>by
  rw[r8a (p43 k2)]at b1;cases b1
 have e2:min k.1.toNat m=min k.1.toNat m' :=by omega
 rw[e2]
theorem o4l{E:Type}{f g:Cur->E×Cur}(hf:∀c,(f c).2.2=false->g c=f c)(hfb:∀c,c.2=true->(f c).2.2=true):∀ {n:Nat} {c:Cur} {a:Hu E},(u3h f n c a).2.2=false->u3h g n c a=u3h f n c a
 |0,c,a,_=>rfl|n+1,c,a,h=>by
  simp only[u3h]at h⊢;split at h
  .rename_i q;rw[q]at h;cases h
  .rename_i q;rw[Ao q,Ao q];have:(f c).2.2=false:=by
    cases z:(f c).2.2 with
    |false=>rfl|true=>rw[s09 z]at h;rw[z]at h;cases h
   rw[hf c this];exact o4l hf hfb h
def s0c(m:Lim)(s:Hs)(c:Cur):u0m×Cur:=((r79 m s c).1,(r79 m s c).2.1,(r79 m s c).2.2 || !u95 (r79 m s c).1)
def Lim.ok(m:Lim):Prop:=9<=m.t/\121<=m.v/\13<=m.p/\4<=m.r
theorem q63{m k:Nat}{s:Hs}{c:Cur}(h:c.2=true):(t5r m k s c).2.2=true:=by
 unfold t5r;rw[s09 (t4d h)];exact t4d h
theorem j4w{m m' k k' N:Nat}(hm:9<=m)(hm' :9<=m')(hk:N<k)(hk' :N<k'){s:Hs}{c:Cur}(h:(t5r m k s c).2.2=false)(hl:(t5r m k s c).1.length<=N):t5r m' k' s c=t5r m k s c:=by
 unfold t5r at h hl⊢;have q:(u22 s c).1.toNat<=N:=by
  rcases B8 N (u22 s c).1.toNat with q|q
  .rcases q77 (f:=u83 m s) (n:=min (u22 s c).1.toNat k) (k:=N+1) (c:=(u22 s c).2) (by omega)with z|z
   .rw[z]at h;cases h
   .omega
  .exact q
 have e:min (u22 s c).1.toNat k=min (u22 s c).1.toNat k' :=by omega
 rw[e]at h⊢;exact o4l (fun c hc=>o4h hm hm' hc) (fun c hc=>d1l hc) h
theorem o8f{m m' :Lim}(hm:m.ok)(hm' :m'.ok){s:Hs}{c:Cur}(h:(s0c m s c).2.2=false):s0c m' s c=s0c m s c:=by
 obtain⟨a1,a2,a3,a4⟩:=hm;obtain⟨b1,b2,b3,b4⟩:=hm';have hb:(r79 m s c).2.2=false/\u95 (r79 m s c).1=true:=by
  unfold s0c at h;simp only[Es,Bool.not_eq_false']at h;exact h
 have hR:=o72.mp hb.2;have v1:=(d2q.mp hR.vs).2.2;have v2:=hR.plen;have v3:=hR.rlen;have h0:=hb.1
 suffices e:r79 m' s c=r79 m s c by unfold s0c;rw[e]
 unfold r79 at h0 v1 v2 v3⊢;simp only at h0 v1 v2 v3⊢;generalize hn:u22 s (u22 s (u22 s c).2).2=n at h0 v1 v2 v3⊢;have k1:n.1.toNat<=120:=by
  rcases B8 120 n.1.toNat with q|q
  .rcases q77 (f:=j1h s) (n:=min n.1.toNat m.v) (k:=121) (c:=n.2) (by omega)with z|z
   .exfalso;rw[q63 (q63 z)]at h0;cases h0
   .omega
  .exact q
 have e1:min n.1.toNat m.v=min n.1.toNat m'.v:=by omega
 rw[e1]at h0 v2 v3⊢;generalize hv:u3h (j1h s) (min n.1.toNat m'.v) n.2 [] =vs at h0 v2 v3⊢;have hp:(t5r m.t m.p s vs.2).2.2=false:=by
  cases z:(t5r m.t m.p s vs.2).2.2 with
  |false=>rfl|true=>rw[q63 z]at h0;cases h0
 rw[j4w (N:=12) a1 b1 (by omega) (by omega) hp v2];rw[j4w (N:=3) a1 b1 (by omega) (by omega) h0 v3]
theorem q6x{s:Hs}{a:Nat}{t:u0e}{m:Nat}(hm:8<=m)(ht:TxnR t)(h:s0o s a (t8i t)):u83 m s ((a:Int),false)=(t,((a+(t8i t).size:Nat):Int),false):=by
 unfold u83;rw[j6w hm ht h];simp only[p5c.mpr ht,Ap,Fp]
theorem p8q{s:Hs}{a:Nat}{l:Hu u0e}{m k:Nat}(hm:8<=m)(hk:l.length<=k)(hl:l.length<=1000000000)(ht:∀t∈l,TxnR t)(h:s0o s a (r8e l)):t5r m k s ((a:Int),false)=(l,((a+(r8e l).size:Nat):Int),false):=by
 unfold r8e at h⊢;obtain⟨k1,k2⟩:=d7v.mp h;unfold t5r;rw[u90 (by omega) (by omega) k1];simp only;rw[show min ((l.length:Int)).toNat k=l.length by omega,s74 (g:=t8i) (fun t h a hs=>q6x hm (ht t h) hs) k2];rw[Af,Cf,D9]
theorem r2n{v:u2u}(h:q7j v=true):v.1.size<=3/\v.2.1.size<=12/\1<=v.2.2.2/\v.2.2.2<=9999:=by
 unfold q7j at h;simp only[Ai,Ar,p6y]at h;exact⟨(u2z h.1).2,h.2.1,h.2.2.2⟩
theorem j4u{s:Hs}{a:Nat}{b:u0m}{m:Lim}(hm:m.ok)(hb:BaseR b)(h:s0o s a (s7l b)):r79 m s ((a:Int),false)=(b,((a+(s7l b).size:Nat):Int),false):=by
 obtain⟨a1,a2,a3,a4⟩:=hm;obtain⟨v1,v2,v3⟩:=d2q.mp hb.vs;have hc:=hb.cs;have hx:=hb.next;have hp:=hb.plen;have hr:=hb.rlen;unfold s7l at h⊢;obtain⟨k1,h⟩:=d7v.mp h;obtain⟨k2,h⟩:=d7v.mp h;obtain⟨k3,h⟩:=d7v.mp h;obtain⟨k4,h⟩:=d7v.mp h;obtain⟨k5,k6⟩:=d7v.mp h;unfold r79;rw[u90 (by omega) (by omega) k1];simp only;rw[u90 (by omega) (by omega) k2];simp only;rw[u90 (by omega) (by omega) k3];simp only;rw[show min ((b.1.length:Int)).toNat m.v=b.1.length by omega,s74 (g:=j5c) (fun v hv a hs=>by
  have:=r2n (v1 v hv);exact j6x (by omega) (by omega) (by omega) hs) k4]
 simp only;rw[p8q (by omega) (by omega) (by omega) (fun t ht=>(hb.past t ht).1) k5];simp only;rw[p8q (by omega) (by omega) (by omega) (fun t ht=>(hb.ready t ht).1) k6];simp only[Cf,Af,D9]
theorem j5b{n:Nat}(h:n<16384):(s9k n).length<=2:=by
 by_cases q:n<128
 .rw[q7h q];simp
 .rw[p65 q,q7h (by omega)];simp
theorem u2d{n:Int}(h:n<16384):(q7i n).size<=2:=by rw[r2m];exact j5b (by omega)
theorem u09{s:Hs}(h:s.size<16384):(u0t s).size<=s.size+2:=by
 unfold u0t;rw[Af,u6c];have:=j5b h;omega
theorem s4p{E:Type}{f:E->Hs}{k:Nat}:∀ {l:Hu E},(∀x∈l,(f x).size<=k)->(q35 f l).size<=l.length*k
 |[],_=>by rw[o9t];simp[emp,ByteArray.size]
 |x::l,h=>by
  rw[r00,Af,Bc,C7];have h1:=h x (by simp);have h2:=s4p (l:=l) (fun y hy=>h y (by simp[hy]));omega
theorem s5i{t:u0e}(h:TxnR t):(t8i t).size<=300:=by
 obtain⟨z1,z2,z3,z4,z5⟩:=h.small;have hi:=h.id;have hst:=h.st;have hsn:=h.snap;have hrl:=h.rlen;have r1:(q35 j5m t.2.2.2.2.1).size<=t.2.2.2.2.1.length*10:=s4p fun r hr=>by
  have:=z1 r hr;have q1:=u09 (s:=r.1) (by omega);have q2:=u09 (s:=r.2) (by omega);unfold j5m;rw[Af];omega
 have r2:(q35 wrT t.2.2.2.2.2.1).size<=t.2.2.2.2.2.1.length*20:=s4p fun w hw=>by
  have:=z2 w hw;have q1:=u09 (s:=w.1) (by omega);have q2:=u09 (s:=w.2.1) (by omega);unfold wrT;rw[Af,Af,u4b];omega
 have v1:=u2d (n:=t.1) (by omega);have v2:=u2d (n:=t.2.1) (by omega);have v3:=u2d (n:=t.2.2.1) (by omega);have v4:=u2d (n:=t.2.2.2.1) (by omega);have v5:=u2d (n:=(t.2.2.2.2.1.length:Int)) (by omega);have v6:=u2d (n:=(t.2.2.2.2.2.1.length:Int)) (by omega);have v7:=u09 (s:=t.2.2.2.2.2.2.2) (by omega);unfold t8i;simp only[Af,u4b];omega
theorem r0j{l:Hu u0e}(hl:l.length<16384)(h:∀t∈l,TxnR t):(r8e l).size<=2+l.length*300:=by
 unfold r8e;rw[Af];have v1:=u2d (n:=(l.length:Int)) (by omega);have v2:=s4p (f:=t8i) (k:=300) (l:=l) (fun t ht=>s5i (h t ht));omega
theorem p5h{v:u2u}(h:q7j v=true):(j5c v).size<=22:=by
 have:=r2n h;have q1:=u09 (s:=v.1) (by omega);have q2:=u09 (s:=v.2.1) (by omega);have q3:=u2d (n:=v.2.2.2) (by omega);unfold j5c;simp only[Af,u4b];omega
theorem p56{b:u0m}(hb:BaseR b):(s7l b).size<=10+b.1.length*22+b.2.1.length*300+b.2.2.1.length*300:=by
 obtain⟨v1,v2,v3⟩:=d2q.mp hb.vs;have hc:=hb.cs;have hx:=hb.next;have hp:=hb.plen;have hr:=hb.rlen;have q1:=u2d (n:=b.2.2.2.1) (by omega);have q2:=u2d (n:=b.2.2.2.2) (by omega);have q3:=u2d (n:=(b.1.length:Int)) (by omega);have q4:=s4p (f:=j5c) (k:=22) (l:=b.1) (fun v hv=>p5h (v1 v hv));have q5:=r0j (l:=b.2.1) (by omega) (fun t ht=>(hb.past t ht).1);have q6:=r0j (l:=b.2.2.1) (by omega) (fun t ht=>(hb.ready t ht).1);unfold s7l;simp only[Af];omega
end Go.Proofs.YtkphhjdbdnoekaaGreatDoor.Ab
