import Derived.Test.YtkphhjdbdnoekaaAbWorldNewG1
import Derived.Test.YtkphhjdbdnoekaaAbK2
import Derived.Test.YtkphhjdbdnoekaaAbF4
import Derived.Test.YtkphhjdbdnoekaaAbS2
namespace Go.Proofs.Ytkphhjdbdnoekaa.Ab
open Go
set_option linter.unusedVariables false
set_option linter.unusedSimpArgs false
set_option linter.unnecessarySimpa false
set_option linter.unusedSectionVars false
section
section
theorem u15 (a b:Nat):decide ((a:Int)<(b:Int))=decide (a<b):=by simp
theorem u84 {X R A:Type} (W:X→Option R) (n:Nat) (mk:A→Int→X) (res:Nat→A→R) (P:Nat→A→Prop)
 (hend:∀a,P n a→W (mk a (n:Int))=some (res n a))
 (hstep:∀(i:Nat) a,i<n→P i a→W (mk a (i:Int))=some (res i a)∨ ∃a',P (i+1) a' ∧res (i+1) a' =res i a∧W (mk a (i:Int))=W (mk a' ((i+1:Nat):Int))):
 ∀(i:Nat) a,i≤n→P i a→W (mk a (i:Int))=some (res i a):=by
 intro i a hi hP
 obtain⟨d,hd⟩:∃d,i+d=n:=⟨n - i,by omega⟩
 clear hi
 induction d generalizing i a with
 | zero=>
  have:i=n:=by omega
  subst this
  exact hend a hP
 | succ d ih=>
  rcases hstep i a (by omega) hP with h | ⟨a',h1,h2,h3⟩
  ·exact h
  ·rw[h3,ih (i+1) a' h1 (by omega),h2]
def szr (b:Int) (w:Nat):Int:=if(w:Int)≤b then b - w else -1
def Ty.wt:(t:Ty)→t.den→Nat
 | .int _,_=>0
 | .bool,_=>0
 | .str,s=>s.size
 | .sl e,l=>l.length+(l.map e.wt).sum
 | .pair a b,x=>a.wt x.1+b.wt x.2
end
section
theorem Q.same {T:Ty} {S:Type} {q:T.den×T.den→Option Bool} {W:List T.den×List T.den×Int→Option (Unit⊕Bool)}
 (hW:∀x,W x=(bif (decide (x.2.2<(x.1.length:Int))) then(bif (y4k x.2.2 x.1.length) then(bif (y4k x.2.2 x.2.1.length) then
  ((q ((rdL T x.1 (x.2.2).toNat),(rdL T x.2.1 (x.2.2).toNat))).bind fun(y1:Bool)=>(bif (!y1) then(some (.inr false)) else(W (x.1,(x.2.1,(IntKind.i64.wrap (x.2.2+(1:Int)))))))) else none) else none) else(some (.inl ()))))
 (l:List T.den) (hl:l.length≤1099511627776) (hq:∀x∈l,q (x,x)=some true):W (l,(l,(0:Int)))=some (.inl ()):=
 u84 W l.length (fun(_:Unit) i=>(l,l,i)) (fun _ _=> .inl ()) (fun _ _=>True)
  (fun a _=>by
   rw[hW]
   simp only[u15,Nat.lt_irrefl,decide_false,cond_false])
  (fun i a h _=> .inr ⟨(),trivial,rfl,by
   rw[hW]
   simp only[u15,h,decide_true,cond_true,y7q h,zTn,y8k h,hq _ (List.getElem_mem h),zOb,Bool.not_true,cond_false]
   rw[y7h (by omega)]⟩) 0 () (by omega) trivial
theorem Q.size {T:Ty} {q:T.den×Int→Option Int} {W:List T.den×Int×Int→Option (Int⊕Int)}
 (hW:∀x,W x=(bif (decide (x.2.2<(x.1.length:Int))) then(bif (y4k x.2.2 x.1.length) then((q ((rdL T x.1 (x.2.2).toNat),x.2.1)).bind fun(y1:Int)=>
  (bif (decide (y1<(0:Int))) then(some (.inr (-1:Int))) else(W (x.1,(y1,(IntKind.i64.wrap (x.2.2+(1:Int)))))))) else none) else(some (.inl x.2.1))))
 (l:List T.den) (hl:l.length≤1099511627776) (hq:∀x∈l,∀c:Int,0≤c→c≤1048576→ ∃y,q (x,c)=some y∧if(T.wt x:Int)≤c then y=c - T.wt x else y<0) (b:Int) (hb:0≤b) (hb2:b≤1048576):
 ((W (l,(b,(0:Int)))).bind fun r=>match r with
  | .inl o=>some o
  | .inr z=>some z)=some (szr b (l.map T.wt).sum):=by
 have key:=u84 W l.length (fun(c:Int) i=>(l,c,i)) (fun i c=>if(((l.drop i).map T.wt).sum:Int)≤c then .inl (c - ((l.drop i).map T.wt).sum) else .inr (-1)) (fun _ c=>0≤c∧c≤1048576)
  (fun c hc=>by
   rw[hW]
   simp only[u15,Nat.lt_irrefl,decide_false,cond_false,List.drop_length,List.map_nil,List.sum_nil]
   rw[if_pos (by simpa using hc.1)]
   simp)
  (fun i c h hc=>by
   have hd:l.drop i=l[i] ::l.drop (i+1):=List.drop_eq_getElem_cons h
   obtain⟨y,hy,hy2⟩:=hq _ (List.getElem_mem h) c hc.1 hc.2
   rw[hW,hd]
   simp only[u15,h,decide_true,cond_true,y7q h,zTn,y8k h,hy,zOb,List.map_cons,List.sum_cons]
   by_cases hw:(T.wt l[i] :Int)≤c
   ·right
    rw[if_pos hw] at hy2
    subst hy2
    refine⟨c - T.wt l[i],⟨by omega,by omega⟩,?_,?_⟩
    ·by_cases h2:(((l.drop (i+1)).map T.wt).sum:Int)≤c - T.wt l[i]
     ·rw[if_pos h2,if_pos (by omega)];congr 1;omega
     ·rw[if_neg h2,if_neg (by omega)]
    ·have:decide (c - (T.wt l[i] :Int)<0)=false:=by simp;omega
     rw[this,cond_false,y7h (by omega)]
   ·left
    rw[if_neg hw] at hy2
    have:decide (y<0)=true:=by simp;omega
    rw[this,if_neg (by omega)]
    rfl) 0 b (by omega) ⟨hb,hb2⟩
 have key:W (l,b,0)=_:=key
 rw[key]
 simp only[List.drop_zero,zOb]
 unfold szr
 by_cases h:((l.map T.wt).sum:Int)≤b
 ·rw[if_pos h,if_pos h]
 ·rw[if_neg h,if_neg h]
theorem u8l {α:Type} {f:α→Nat} {l:List α} {x:α} (h:x∈l):f x≤(l.map f).sum:=by
 induction l with
 | nil=>cases h
 | cons y l ih=>
  simp only[List.map_cons,List.sum_cons]
  rcases List.mem_cons.mp h with rfl | h
  ·omega
  ·have:=ih h;omega
abbrev u55:Ty:=(.pair .str .str)
abbrev u56:Ty:=(.pair .str (.pair .str .bool))
abbrev u2c:Ty:=(.pair .str (.pair .str (.pair .bool (.int .i64))))
abbrev u9e:Ty:=(.pair (.int .i64) .str)
abbrev u93:Ty:=(.pair (.sl .str) (.sl u9e))
abbrev u9a:Ty:=(.pair (.int .i64) (.pair (.int .i64) (.pair (.int .i64) (.pair (.int .i64) (.pair (.sl u55) (.pair (.sl u56) (.pair .bool .str)))))))
abbrev u92:Ty:=(.pair (.sl u2c) (.pair (.sl u9a) (.pair (.sl u9a) (.pair (.int .i64) (.int .i64)))))
abbrev u8p:Ty:=(.pair u92 (.sl u9a))
abbrev u9f:Ty:=(.pair u8p u93)
abbrev u9y:Ty:=(.pair u9f (.pair (.sl u9a) (.pair (.sl (.int .i64)) (.sl .str))))
end
section
theorem u96 (l:List ((Ty.int .i64)).den) (hx:(Ty.sl (Ty.int .i64)).wt l≤1099511627776):u3x (l,l)=some true:=by
 have hw:(Ty.sl (Ty.int .i64)).wt l=l.length+(l.map ((Ty.int .i64)).wt).sum:=rfl
 rw[hw] at hx;rw[u75];unfold u51;simp only
 have h2:u0z (l,l,(0:Int))=some (.inl ()):=Q.same (T:=(Ty.int .i64)) (S:=Unit) (q:=fun x=>some (decide (x.1=x.2))) (W:=u0z) (fun x=>u7k x) l (by omega) (fun x _=>by simp[y6g])
 simp only[decide_true,Bool.not_true,cond_false,h2,zOb]
theorem u7z (l:List (Ty.str).den) (hx:(Ty.sl Ty.str).wt l≤1099511627776):u1b (l,l)=some true:=by
 have hw:(Ty.sl Ty.str).wt l=l.length+(l.map (Ty.str).wt).sum:=rfl
 rw[hw] at hx;rw[u6s];unfold u31;simp only
 have h2:u0i (l,l,(0:Int))=some (.inl ()):=Q.same (T:=Ty.str) (S:=Unit) (q:=fun x=>some (z7j x.1 x.2)) (W:=u0i) (fun x=>u57 x) l (by omega) (fun x _=>by simp[y6g])
 simp only[decide_true,Bool.not_true,cond_false,h2,zOb]
theorem u9r (x:(u55).den) (hx:(u55).wt x≤1099511627776):u1v (x,x)=some true:=by
 simp only[Ty.wt] at hx
 rw[u7p];unfold u5e;simp only
 simp only[zOb,y6g,decide_true,beq_self_eq_true,Bool.not_true,cond_false]
theorem u9i (l:List (u55).den) (hx:(Ty.sl u55).wt l≤1099511627776):u2n (l,l)=some true:=by
 have hw:(Ty.sl u55).wt l=l.length+(l.map (u55).wt).sum:=rfl
 rw[hw] at hx;rw[u63];unfold u4o;simp only
 have h2:u0n (l,l,(0:Int))=some (.inl ()):=Q.same (T:=u55) (S:=Unit) (q:=u1v) (W:=u0n) (fun x=>u6h x) l (by omega) (fun x hm=>u9r x (by have:=u8l (f:=(u55).wt) hm;omega))
 simp only[decide_true,Bool.not_true,cond_false,h2,zOb]
theorem u9u (x:(u56).den) (hx:(u56).wt x≤1099511627776):u1w (x,x)=some true:=by
 simp only[Ty.wt] at hx
 rw[u7s];unfold u5h;simp only
 simp only[zOb,y6g,decide_true,beq_self_eq_true,Bool.not_true,cond_false]
theorem u9j (l:List (u56).den) (hx:(Ty.sl u56).wt l≤1099511627776):u2o (l,l)=some true:=by
 have hw:(Ty.sl u56).wt l=l.length+(l.map (u56).wt).sum:=rfl
 rw[hw] at hx;rw[u65];unfold u4p;simp only
 have h2:u0o (l,l,(0:Int))=some (.inl ()):=Q.same (T:=u56) (S:=Unit) (q:=u1w) (W:=u0o) (fun x=>u6i x) l (by omega) (fun x hm=>u9u x (by have:=u8l (f:=(u56).wt) hm;omega))
 simp only[decide_true,Bool.not_true,cond_false,h2,zOb]
theorem u89 (x:(u2c).den) (hx:(u2c).wt x≤1099511627776):u1c (x,x)=some true:=by
 simp only[Ty.wt] at hx
 rw[u6t];unfold u32;simp only
 simp only[zOb,y6g,decide_true,beq_self_eq_true,Bool.not_true,cond_false]
theorem u8q (l:List (u2c).den) (hx:(Ty.sl u2c).wt l≤1099511627776):u1r (l,l)=some true:=by
 have hw:(Ty.sl u2c).wt l=l.length+(l.map (u2c).wt).sum:=rfl
 rw[hw] at hx;rw[u6d];unfold u3c;simp only
 have h2:u0f (l,l,(0:Int))=some (.inl ()):=Q.same (T:=u2c) (S:=Unit) (q:=u1c) (W:=u0f) (fun x=>u5v x) l (by omega) (fun x hm=>u89 x (by have:=u8l (f:=(u2c).wt) hm;omega))
 simp only[decide_true,Bool.not_true,cond_false,h2,zOb]
theorem t0q (x:(u9e).den) (hx:(u9e).wt x≤1099511627776):u22 (x,x)=some true:=by
 simp only[Ty.wt] at hx
 rw[u8f];unfold u6o;simp only
 simp only[zOb,y6g,decide_true,beq_self_eq_true,Bool.not_true,cond_false]
theorem u97 (l:List (u9e).den) (hx:(Ty.sl u9e).wt l≤1099511627776):u3y (l,l)=some true:=by
 have hw:(Ty.sl u9e).wt l=l.length+(l.map (u9e).wt).sum:=rfl
 rw[hw] at hx;rw[u76];unfold u52;simp only
 have h2:u00 (l,l,(0:Int))=some (.inl ()):=Q.same (T:=u9e) (S:=Unit) (q:=u22) (W:=u00) (fun x=>u7l x) l (by omega) (fun x hm=>t0q x (by have:=u8l (f:=(u9e).wt) hm;omega))
 simp only[decide_true,Bool.not_true,cond_false,h2,zOb]
theorem u95 (x:(u93).den) (hx:(u93).wt x≤1099511627776):u3w (x,x)=some true:=by
 simp only[Ty.wt] at hx
 rw[u74];unfold u50;simp only
 simp only[u7z x.1 (by simp only[Ty.wt];omega),u97 x.2 (by simp only[Ty.wt];omega),zOb,y6g,decide_true,beq_self_eq_true,Bool.not_true,cond_false]
theorem t0r (x:(u9a).den) (hx:(u9a).wt x≤1099511627776):u23 (x,x)=some true:=by
 simp only[Ty.wt] at hx
 rw[u8g];unfold u6p;simp only
 simp only[u9i x.2.2.2.2.1 (by simp only[Ty.wt];omega),u9j x.2.2.2.2.2.1 (by simp only[Ty.wt];omega),zOb,y6g,decide_true,beq_self_eq_true,Bool.not_true,cond_false]
theorem u79 (l:List (u9a).den) (hx:(Ty.sl u9a).wt l≤1099511627776):u07 (l,l)=some true:=by
 have hw:(Ty.sl u9a).wt l=l.length+(l.map (u9a).wt).sum:=rfl
 rw[hw] at hx;rw[u77];unfold u53;simp only
 have h2:u01 (l,l,(0:Int))=some (.inl ()):=Q.same (T:=u9a) (S:=Unit) (q:=u23) (W:=u01) (fun x=>u7m x) l (by omega) (fun x hm=>t0r x (by have:=u8l (f:=(u9a).wt) hm;omega))
 simp only[decide_true,Bool.not_true,cond_false,h2,zOb]
theorem u94 (x:(u92).den) (hx:(u92).wt x≤1099511627776):u3v (x,x)=some true:=by
 simp only[Ty.wt] at hx
 rw[u73];unfold u5z;simp only
 simp only[u8q x.1 (by simp only[Ty.wt];omega),u79 x.2.1 (by simp only[Ty.wt];omega),u79 x.2.2.1 (by simp only[Ty.wt];omega),zOb,y6g,decide_true,beq_self_eq_true,Bool.not_true,cond_false]
theorem u9h (x:(u8p).den) (hx:(u8p).wt x≤1099511627776):u2m (x,x)=some true:=by
 simp only[Ty.wt] at hx
 rw[u62];unfold u4n;simp only
 simp only[u94 x.1 (by simp only[Ty.wt];omega),u79 x.2 (by simp only[Ty.wt];omega),zOb,y6g,decide_true,beq_self_eq_true,Bool.not_true,cond_false]
theorem u9s (x:(u9f).den) (hx:(u9f).wt x≤1099511627776):u24 (x,x)=some true:=by
 simp only[Ty.wt] at hx
 rw[u7q];unfold u5f;simp only
 simp only[u9h x.1 (by simp only[Ty.wt];omega),u95 x.2 (by simp only[Ty.wt];omega),zOb,y6g,decide_true,beq_self_eq_true,Bool.not_true,cond_false]
theorem u9t (x:(u9y).den) (hx:(u9y).wt x≤1099511627776):u1a (x,x)=some true:=by
 simp only[Ty.wt] at hx
 rw[u7r];unfold u5g;simp only
 simp only[u9s x.1 (by simp only[Ty.wt];omega),u79 x.2.1 (by simp only[Ty.wt];omega),u96 x.2.2.1 (by simp only[Ty.wt];omega),u7z x.2.2.2 (by simp only[Ty.wt];omega),zOb,y6g,decide_true,beq_self_eq_true,Bool.not_true,cond_false]
end
section
theorem u9g {n:Nat} (h:n≤1099511627776):Nat.ble n z8v=true:=Nat.ble_eq_true_of_le h
end
section
theorem u8k (l:List Int):(y7c l).size=l.length:=by
 simp[y7c,ByteArray.size]
end
section
abbrev u9o:=List ByteArray×List (Int×ByteArray)
def t1s (a b c:Int):Bool:=decide (b≤a)&&decide (a≤c)
end
section
def t1b (d:u9o):Bool:=decide (1≤d.1.length∧d.1.length≤100)&&decide (d.2.length≤60)&&d.1.all (fun s=>decide (s.size=64))&&d.2.all (fun p=>t1s p.1 0 ((d.1.length:Int) - 1)&&decide (p.2.size=64))
end
section
theorem u8a:∀(n:Nat) (s:ByteArray),s.size+n≤100000000000000→ ∃t,u06 ((n:Int),s)=some (.inl t)∧t.size≤s.size+n:=by
 intro n
 induction n using Nat.strongRecOn with
 | _ n ih=>
  intro s hs
  rw[u6m];simp only[u1l]
  by_cases h0:n=0
  ·subst h0
   exact⟨s,by simp,by omega⟩
  ·have h1:decide ((n:Int) >(0:Int))=true:=by simp;omega
   have h2:Int.tdiv (n:Int) (10:Int)=((n / 10:Nat):Int):=(Int.ofNat_tdiv n 10).symm
   have h3:decide ((y7c [IntKind.u8.wrap (IntKind.i64.wrap (48+Int.tmod (n:Int) 10))]).size+s.size≤140737488355328)=true:=by rw[u8k];simp;omega
   simp only[h1,h2,h3,cond_true]
   rw[y7z (by omega)]
   have hz:(y7c [IntKind.u8.wrap (IntKind.i64.wrap (48+Int.tmod (n:Int) 10))] ++s).size=1+s.size:=by rw[ByteArray.size_append,u8k];rfl
   obtain⟨t,ht,hl⟩:=ih (n / 10) (by omega) (y7c [IntKind.u8.wrap (IntKind.i64.wrap (48+Int.tmod (n:Int) 10))] ++s) (by omega)
   exact⟨t,ht,by omega⟩
noncomputable def mt (k:Int):ByteArray:=(u0c k).getD ⟨#[]⟩
theorem u3s (k:Int) (h1:0≤k) (h2:k≤90000000000000):u0c k=some (mt k):=by
 have:∃t,u0c k=some t:=by
  rw[u7f];unfold u4z
  by_cases h0:k≤0
  ·exact⟨⟨#[109,48]⟩,by simp only[h0,decide_true,cond_true]⟩
  ·obtain⟨n,rfl⟩:∃n:Nat,k=n:=⟨k.toNat,by omega⟩
   obtain⟨t,ht,hl⟩:=u8a n ⟨#[]⟩ (by show 0+n≤_;omega)
   have:t.size≤n:=by have h:t.size≤0+n:=hl;omega
   have h3:decide ((⟨#[109]⟩:ByteArray).size+t.size≤140737488355328)=true:=by
    have:(⟨#[109]⟩:ByteArray).size=1:=rfl
    rw[this];simp;omega
   simp only[h0,decide_false,cond_false,ht,zOb,h3,cond_true]
   exact⟨_,rfl⟩
 obtain⟨t,ht⟩:=this
 rw[mt,ht];rfl
theorem u80 {α:Type} {p:List α} {x y:α} {q:List α} {i:Nat} (h:p.length=i):(p++x::q).set i y=p++y::q:=by
 subst h
 rw[List.set_append_right _ _ (Nat.le_refl _),Nat.sub_self,List.set_cons_zero]
theorem t0v {T:Ty} {p:List T.den} {x:T.den} {q:List T.den} {i:Nat} (h:p.length=i):rdL T (p++x::q) i=x:=by
 subst h
 simp[rdL]
noncomputable def u0x (k:Int) (n:Nat):List ByteArray:=(List.range n).map fun(i:Nat)=>mt (k+(i:Int))
theorem u2l {k:Int} {n:Nat} :(u0x k n).length=n:=by simp[u0x]
theorem u8i {k:Int} {n:Nat} :u0x k (n+1)=u0x k n++ [mt (k+(n:Int))] :=by simp[u0x,List.range_succ]
noncomputable def u0y (k:Int) (n:Nat):List (Int×ByteArray):=(List.range n).map fun(i:Nat)=>(k+2*(i:Int),mt (k+2*(i:Int)+1))
theorem u1q {k:Int} {n:Nat} :(u0y k n).length=n:=by simp[u0y]
theorem u8j {k:Int} {n:Nat} :u0y k (n+1)=u0y k n++ [(k+2*(n:Int),mt (k+2*(n:Int)+1))] :=by simp[u0y,List.range_succ]
theorem u7y (l:List ByteArray) (k:Int) (hk:0≤k) (hl:k+(l.length:Int)≤9000000000000):u0k (l,k)=some (k+(l.length:Int),u0x k l.length):=by
 have key:=u84 u0e l.length (fun(_:Unit) i=>(u0x k i.toNat++l.drop i.toNat,k+i,i)) (fun _ _=> .inl (u0x k l.length,k+(l.length:Int))) (fun _ _=>True)
  (fun a _=>by
   rw[u09]
   simp only[u0m,zTn,List.drop_length,List.append_nil,u2l,u15,Nat.lt_irrefl,decide_false,cond_false])
  (fun i a hi _=> .inr ⟨(),trivial,rfl,by
   have hd:l.drop i=l[i] ::l.drop (i+1):=List.drop_eq_getElem_cons hi
   have hlen:(u0x k i++l[i] ::l.drop (i+1)).length=l.length:=by simp[u2l];omega
   have w1:IntKind.i64.wrap (k+(i:Int)+1)=k+((i+1:Nat):Int):=by rw[y4t (by omega) (by omega)];simp;omega
   rw[u09]
   simp only[u0m,zTn,hd,hlen,u15,hi,decide_true,cond_true,y7q hi,u3s (k+(i:Int)) (by omega) (by omega),zOb,u80 (u2l),w1,y7h (show i<4611686018427387904 by omega)]
   rw[u8i]
   simp⟩) 0 () (by omega) trivial
 have key:u0e (u0x k 0++l,k+0,0)=_:=key
 have e0:u0x k 0++l=l:=rfl
 rw[e0,Int.add_zero] at key
 rw[u20];unfold u1h
 simp only[key,zOb]
theorem u7x (n:Nat) (k:Int) (hk:0≤k) (hl:k+(n:Int)≤9000000000000):u0j (u0x k n,k)=some (k+(n:Int)):=by
 have key:=u84 u0d n (fun(_:Unit) i=>(u0x k n,k+i,i)) (fun _ _=> .inl (k+(n:Int))) (fun _ _=>True)
  (fun a _=>by
   rw[u08]
   simp only[u0l,u2l,u15,Nat.lt_irrefl,decide_false,cond_false])
  (fun i a hi _=> .inr ⟨(),trivial,rfl,by
   have hi' :i<(u0x k n).length:=by rw[u2l];exact hi
   have hg:(u0x k n)[i] =mt (k+(i:Int)):=by simp[u0x]
   have w1:IntKind.i64.wrap (k+(i:Int)+1)=k+((i+1:Nat):Int):=by rw[y4t (by omega) (by omega)];simp;omega
   rw[u08]
   simp only[u0l,zTn,u15,hi',decide_true,cond_true,y7q hi',y8k (t:=Ty.str) hi',hg,u3s (k+(i:Int)) (by omega) (by omega),zOb,y6g,Bool.not_true,cond_false,w1,y7h (show i<4611686018427387904 by omega)]⟩) 0 () (by omega) trivial
 have key:u0d (u0x k n,k+0,0)=_:=key
 rw[Int.add_zero] at key
 rw[u2z];unfold u1g
 simp only[key,zOb]
theorem u8u (l:List (Int×ByteArray)) (k:Int) (hk:0≤k) (hl:k+2*(l.length:Int)≤9000000000000):u2w (l,k)=some (k+2*(l.length:Int),u0y k l.length):=by
 have key:=u84 u0q l.length (fun(_:Unit) i=>(u0y k i.toNat++l.drop i.toNat,k+2*i,i)) (fun _ _=> .inl (u0y k l.length,k+2*(l.length:Int))) (fun _ _=>True)
  (fun a _=>by
   rw[u3r]
   simp only[u05,zTn,List.drop_length,List.append_nil,u1q,u15,Nat.lt_irrefl,decide_false,cond_false])
  (fun i a hi _=> .inr ⟨(),trivial,rfl,by
   have hd:l.drop i=l[i] ::l.drop (i+1):=List.drop_eq_getElem_cons hi
   have hlen:∀x,(u0y k i++x::l.drop (i+1)).length=l.length:=fun x=>by simp[u1q];omega
   have w1:IntKind.i64.wrap (k+2*(i:Int)+1)=k+2*(i:Int)+1:=y4t (by omega) (by omega)
   have w2:IntKind.i64.wrap (k+2*(i:Int)+1+1)=k+2*((i+1:Nat):Int):=by rw[y4t (by omega) (by omega)];simp;omega
   rw[u3r]
   simp only[u05,zTn,hd,hlen,u15,hi,decide_true,cond_true,y7q hi,w1,u3s (k+2*(i:Int)+1) (by omega) (by omega),zOb,u80 (u1q),t0v (T:=u9e) (u1q),w2,y7h (show i<4611686018427387904 by omega)]
   rw[u8j]
   simp⟩) 0 () (by omega) trivial
 have key:u0q (u0y k 0++l,k+2*0,0)=_:=key
 have e0:u0y k 0++l=l:=rfl
 have e1:k+2*0=k:=by omega
 rw[e0,e1] at key
 rw[u7e];unfold u4y
 simp only[key,zOb]
theorem u8s (n:Nat) (k:Int) (hk:0≤k) (hl:k+2*(n:Int)≤9000000000000):u2s (u0y k n,k)=some (k+2*(n:Int)):=by
 have key:=u84 u0p n (fun(_:Unit) i=>(u0y k n,k+2*i,i)) (fun _ _=> .inl (k+2*(n:Int))) (fun _ _=>True)
  (fun a _=>by
   rw[u3q]
   simp only[u04,u1q,u15,Nat.lt_irrefl,decide_false,cond_false])
  (fun i a hi _=> .inr ⟨(),trivial,rfl,by
   have hi' :i<(u0y k n).length:=by rw[u1q];exact hi
   have hg:(u0y k n)[i] =(k+2*(i:Int),mt (k+2*(i:Int)+1)):=by simp[u0y]
   have w1:IntKind.i64.wrap (k+2*(i:Int)+1)=k+2*(i:Int)+1:=y4t (by omega) (by omega)
   have w2:IntKind.i64.wrap (k+2*(i:Int)+1+1)=k+2*((i+1:Nat):Int):=by rw[y4t (by omega) (by omega)];simp;omega
   rw[u3q]
   simp only[u04,zTn,u15,hi',decide_true,cond_true,y7q hi',y8k (t:=u9e) hi',hg,w1,w2,u3s (k+2*(i:Int)+1) (by omega) (by omega),zOb,y6g,Bool.not_true,cond_false,y7h (show i<4611686018427387904 by omega)]⟩) 0 () (by omega) trivial
 have key:u0p (u0y k n,k+2*0,0)=_:=key
 have e1:k+2*0=k:=by omega
 rw[e1] at key
 rw[u69];unfold u4t
 simp only[key,zOb]
noncomputable def u5u (k:Int) (n m:Nat):u9o:=(u0x k n,u0y (k+(n:Int)) m)
theorem u8t (d:u9o) (k:Int) (hk:0≤k) (hl:k+(d.1.length:Int)+2*(d.2.length:Int)≤9000000000000):u2u (d,k)=some (k+(d.1.length:Int)+2*(d.2.length:Int),u5u k d.1.length d.2.length):=by
 rw[u7c];unfold u4w
 simp only[u7y d.1 k hk (by omega),u8u d.2 (k+(d.1.length:Int)) (by omega) (by omega),zOb]
 rfl
theorem u8r (n m:Nat) (k:Int) (hk:0≤k) (hl:k+(n:Int)+2*(m:Int)≤9000000000000):u2q (u5u k n m,k)=some (k+(n:Int)+2*(m:Int)):=by
 have h1:decide (k+(n:Int)<0)=false:=by simp;omega
 have h2:decide (k+(n:Int)+2*(m:Int)<0)=false:=by simp;omega
 rw[u67];unfold u4r u5u
 simp only[u7x n k hk (by omega),zOb,h1,cond_false,u8s m (k+(n:Int)) (by omega) (by omega),h2]
end
section
set_option maxRecDepth 20000
def u8n:ByteArray:=y8v ⟨#[0]⟩ 64
theorem t0h:y7c (List.replicate 64 0)=u8n:=by rfl
theorem t0p:u25 ()=some u8n:=by
 have hset:∀i,(List.replicate 64 (0:Int)).set i 0=List.replicate 64 0:=fun i=>by
  apply List.ext_getElem (by simp)
  intro j h1 h2
  rw[List.getElem_set,List.getElem_replicate]
  split
  ·rfl
  ·rfl
 have key:∀(r i:Nat),i+r=64→u0w ((64:Int),0,List.replicate 64 0,(i:Int))=some (.inl (List.replicate 64 0)):=by
  intro r
  induction r with
  | zero=>
   intro i hi
   have:i=64:=by omega
   subst this
   rw[u4f]
   rfl
  | succ r ih=>
   intro i hi
   have hlt:decide ((i:Int)<64)=true:=by simp;omega
   have hg:y4k (i:Int) (List.replicate 64 (0:Int)).length=true:=y7q (by simp;omega)
   rw[u4f]
   simp only[u13,hlt,cond_true,hg,hset]
   rw[y7h (by omega)]
   exact ih (i+1) (by omega)
 have e1:u0w ((64:Int),0,List.replicate 64 0,0)=_:=key 64 0 rfl
 rw[u7w];unfold u5l
 rw[u7v];unfold u5k
 have hc:(decide ((0:Int)≤64)&&decide ((64:Int)≤1099511627776))=true:=rfl
 have hr:List.replicate ((64:Int)).toNat (Ty.int .u8).zero=List.replicate 64 (0:Int):=rfl
 simp only[hc,cond_true,hr,e1,zOb,t0h]
theorem t06:u19 ((⟨#[0]⟩:ByteArray),(64:Int))=some u8n:=by
 rw[u6z];rfl
def u8z:u9o:=(List.replicate 97 u8n, [])
theorem u9q:u3z ()=some u8z:=by
 have key:∀(r i:Nat),i+r=97→u0v ((97:Int),([], []),(List.replicate i u8n, []),(i:Int))=some (.inl (([], []),u8z)):=by
  intro r
  induction r with
  | zero=>
   intro i hi
   have:i=97:=by omega
   subst this
   rw[u4e]
   rfl
  | succ r ih=>
   intro i hi
   have hlt:decide ((i:Int)<97)=true:=by simp;omega
   have hc:Nat.ble ((List.replicate i u8n).length+([u8n] :List ByteArray).length) z8v=true:=u9g (by simp;omega)
   rw[u4e]
   simp only[u12,hlt,cond_true,t0p,zOb,hc]
   rw[y7h (by omega)]
   have e:List.replicate i u8n++ [u8n] =List.replicate (i+1) u8n:=by rw[List.replicate_succ']
   rw[e]
   exact ih (i+1) (by omega)
 have e1:u0v ((97:Int),([], []),([], []),0)=_:=key 97 0 rfl
 have hs:u1u ()=some 97:=by rw[u6g];rfl
 have hi:u48 ((97:Int),(1:Int),(100:Int))=some true:=by rw[u8h];rfl
 rw[u78];unfold u54
 simp only[hs,zOb]
 rw[u7u];unfold u5j
 simp only[hi,zOb,Bool.not_true,cond_false,e1]
theorem u9p:u3t ()=some u8z:=by
 have key:∀(r i:Nat),i+r=97→u0u ((97:Int),([], []),(List.replicate i u8n, []),(i:Int))=some (.inl (([], []),u8z)):=by
  intro r
  induction r with
  | zero=>
   intro i hi
   have:i=97:=by omega
   subst this
   rw[u4d]
   rfl
  | succ r ih=>
   intro i hi
   have hlt:decide ((i:Int)<97)=true:=by simp;omega
   have hc:Nat.ble ((List.replicate i u8n).length+([u8n] :List ByteArray).length) z8v=true:=u9g (by simp;omega)
   rw[u4d]
   simp only[u11,hlt,cond_true,t06,zOb,hc]
   rw[y7h (by omega)]
   have e:List.replicate i u8n++ [u8n] =List.replicate (i+1) u8n:=by rw[List.replicate_succ']
   rw[e]
   exact ih (i+1) (by omega)
 have e1:u0u ((97:Int),([], []),([], []),0)=_:=key 97 0 rfl
 have hi:u3u ((97:Int),(1:Int),(100:Int))=some true:=by rw[u72];rfl
 rw[u71];unfold u5y
 rw[u7o];unfold u5d
 simp only[hi,zOb,Bool.not_true,cond_false,e1]
theorem u86:u2x ()=some (((([],((),((),((0:Int),(1:Int))))),()),u8z),((),([], []))):=by
 rw[u7i];unfold u42
 rw[u7h];unfold u41
 rw[u6y];unfold u37
 rw[u7t];unfold u5i
 simp only[zOb,u9q]
theorem u85:u1i ()=some (((([],((),((),((0:Int),(1:Int))))),()),u8z),((),([], []))):=by
 rw[u61];unfold u4m
 rw[u60];unfold u4l
 rw[u6r];unfold u30
 rw[u7n];unfold u5c
 simp only[zOb,u9p]
theorem t07 (k:Int):u0r ((),k)=some k:=by
 rw[u7g];unfold u40
 rw[u6n];rfl
theorem t1q (k:Int):u0g ([],k)=some k:=by
 rw[u7a];unfold u4u
 rw[u6k];rfl
theorem t1v (k:Int):u0t ([],k)=some (k, []):=by
 rw[u5s];unfold u2h
 rw[u5a];rfl
theorem t1r (k:Int):u0s ([],k)=some k:=by
 rw[u5r];unfold u2g
 rw[u49];rfl
theorem t1t (k:Int):u2v ([],k)=some (k, []):=by
 rw[u7d];unfold u4x
 rw[u6l];rfl
theorem t1o (k:Int):u2r ([],k)=some k:=by
 rw[u68];unfold u4s
 rw[u6j];rfl
theorem t1u (k:Int):u0k ([],k)=some (k, []):=by
 rw[u20];unfold u1h
 rw[u09];rfl
theorem t1p (k:Int):u0j ([],k)=some k:=by
 rw[u2z];unfold u1g
 rw[u08];rfl
def w97:u9y.den:=(((([],([],([],((0:Int),(1:Int))))), []),u8z),([],([], [])))
theorem t0w:u9y.wt w97≤1099511627776:=by decide+kernel
theorem u5t (x:Unit) (hx:True):u1k x=some true:=by
 cases x
 have hE:=u9t w97 t0w
 have e1:u1a (((((([] :List u2c.den),([] :List u9a.den),([] :List u9a.den),(0:Int),(1:Int)),([] :List u9a.den)),u8z),([] :List u9a.den),([] :List Int),([] :List ByteArray)),(((([] :List u2c.den),([] :List u9a.den),([] :List u9a.den),(0:Int),(1:Int)),([] :List u9a.den)),u8z),([] :List u9a.den),([] :List Int),([] :List ByteArray))=some true:=hE
 have m1:=u8t u8z 1 (by omega) (by decide)
 have l1:u8z.1.length=97:=rfl
 have l2:u8z.2.length=0:=rfl
 rw[l1,l2] at m1
 have h1:=u8r 97 0 1 (by omega) (by decide)
 have c1:(1:Int)+((97:Nat):Int)+2*((0:Nat):Int)=98:=rfl
 rw[c1] at m1 h1
 have mV:∀k:Int,u0t (([] :List u2c.den),k)=some (k, []):=t1v
 have mB:u2t ((([] :List u2c.den),((),((),((0:Int),(1:Int))))),(1:Int))=some (1,([],((),((),(0,1))))):=by
  rw[u7b];unfold u4v
  simp only[mV,t07,zOb]
 have mE:u1t (((([] :List u2c.den),((),((),((0:Int),(1:Int))))),()),(1:Int))=some (1,(([],((),((),(0,1)))),())):=by
  rw[u6f];unfold u3e
  simp only[mB,t07,zOb]
 have mS:u17 ((((([] :List u2c.den),((),((),((0:Int),(1:Int))))),()),u8z),(1:Int))=some (98,((([],((),((),(0,1)))),()),u5u 1 97 0)):=by
  rw[u6w];unfold u35
  simp only[mE,m1,zOb]
 have mW:u18 ((((((([] :List u2c.den),((),((),((0:Int),(1:Int))))),()),u8z)),((),(([] :List Int),([] :List ByteArray)))),(1:Int))=some (98,(((([],((),((),(0,1)))),()),u5u 1 97 0),((),([], [])))):=by
  rw[u6x];unfold u36
  simp only[mS,t07,t1t,t1u,zOb]
 have hV:∀k:Int,u0s (([] :List u2c.den),k)=some k:=t1r
 have hT:∀k:Int,u0g (([] :List u9a.den),k)=some k:=t1q
 have d1:decide ((1:Int)<0)=false:=rfl
 have d2:decide ((98:Int)<0)=false:=rfl
 have hB:u2p ((([] :List u2c.den),(([] :List u9a.den),(([] :List u9a.den),((0:Int),(1:Int))))),(1:Int))=some 1:=by
  rw[u66];unfold u4q
  simp only[hV,hT,zOb,d1,cond_false]
 have hEn:u1s (((([] :List u2c.den),(([] :List u9a.den),(([] :List u9a.den),((0:Int),(1:Int))))),([] :List u9a.den)),(1:Int))=some 1:=by
  rw[u6e];unfold u3d
  simp only[hB,hT,zOb,d1,cond_false]
 have hS:u16 ((((([] :List u2c.den),(([] :List u9a.den),(([] :List u9a.den),((0:Int),(1:Int))))),([] :List u9a.den)),u5u 1 97 0),(1:Int))=some 98:=by
  rw[u6u];unfold u33
  simp only[hEn,h1,zOb,d1,d2,cond_false]
 have hW:u1d ((((((([] :List u2c.den),(([] :List u9a.den),(([] :List u9a.den),((0:Int),(1:Int))))),([] :List u9a.den)),u5u 1 97 0)),(([] :List u9a.den),(([] :List Int),([] :List ByteArray)))),(1:Int))=some 98:=by
  rw[u6v];unfold u34
  simp only[hS,hT,t1o,t1p,zOb,d2,cond_false]
 rw[u4h];unfold u1j
 simp only[u86,u85,zOb]
 simp only[e1,zOb,Bool.not_true,cond_false]
 simp only[mW,zOb]
 simp only[hW,zOb,d2,cond_false,decide_true,Bool.not_true]
end
end
end Go.Proofs.Ytkphhjdbdnoekaa.Ab
