import Derived.Test.YtkphhjdbdnoekaaGreatDoorAbS2
import Derived.Shelf.RegionOpenPlain
import Derived.WalkKit
import Derived.Lib.Walk
import Derived.Lib.SliceRun
import Derived.Lib.JoinLaws
import Derived.Lib.AppendZeros
import Derived.Lib.AppendZerosOnto
import Derived.Lib.Overlaps
import Derived.Laws.Externs
import Derived.Laws.IdiomCopy
import Derived.Laws.NewBlocks
import Derived.Shelf.Spec.SlicesInsert
namespace Go.Proofs.YtkphhjdbdnoekaaGreatDoor.Ab

section
open Go Go.Proofs Go.Lib
set_option linter.unusedVariables false
set_option linter.unusedSimpArgs false
set_option linter.unnecessarySimpa false
set_option linter.unusedVariables false
set_option linter.unusedSimpArgs false
variable {P:Program}
theorem y3a (w:World) (dT sT ty elem:TypeId) (b o dLen dCap:Nat) (a:Addr) (sLen sCap:Nat) (cs:List Value) (K q:Nat)
 (hu:P.underlying dT=some (.slice elem)) (hs:(P.info? elem).map (·.size)=some K) (hq:Nat.min sLen dLen=q) (hn:cs.length=q*K)
 (hsrc:∀j v,cs[j]? =some v->w.cell? (a.add j)=some v) (hc:∀j,j<cs.length->(w.cell? ⟨b,o+j,none⟩).isSome=true) (hf:∀j,j<cs.length->w.frozen? ⟨b,o+j,none⟩=false) (h1:∀v∈cs,v.oneCell' =true):
 (Builtin.copy_ #[dT,sT] ty #[.slice (some ⟨b,o,none⟩) dLen dCap, .slice (some a) sLen sCap]).run P w= .ok (goInt q) (w.setCells b o cs):=by
 have hl:=run_loadCells_list (P:=P) w a cs hsrc;have hst:=run_storeCells_cells (P:=P) b o cs 0 w (by simpa using hc) (by simpa using hf) h1;cases hx:P.info? elem with
 | none=>simp[hx] at hs | some i=>
  have hi:i.size=K:=by simpa[hx] using hs
  simp[Builtin.copy_,run_underlying hu,Builtin.lenOf,Builtin.firstCells,sizeOf,typeInfo,hx,hi,hq,←hn,hl,hst]
structure InsRoads (P:Program) (f K tE:Nat):Prop where
 shift:∀(b n c i vb vc:Nat) (cs vs:List Value) (w:World) (hi:i<n) (hroom:n+1<=c) (hbig:n+1<=1099511627776) (hvb:vb≠b)
  (hcl:cs.length=n*K) (hvl:vs.length=K)
  (hcs:∀j v,cs[j]? =some v->w.cell? ⟨b,j,none⟩=some v) (hsp:∀j,j<(n+1)*K->(w.cell? ⟨b,j,none⟩).isSome=true) (hfz:∀j,w.frozen? ⟨b,j,none⟩=false)
  (hvs:∀j v,vs[j]? =some v->w.cell? ⟨vb,j,none⟩=some v) (h1c:∀v∈cs,v.oneCell' =true) (h1v:∀v∈vs,v.oneCell' =true)
  (tA tB:TypeId) (kA kB:Nat) (hsa:w.shape? vb=some (tA,kA)) (hsb:w.shape? b=some (tB,kB)) (hkB:kB≠0) (hfa:w.frozen? ⟨vb,0,none⟩=false) (hfe:w.frozen? ⟨vb,kA,none⟩=false),
  Calls P f #[.slice (some ⟨b,0,none⟩) n c, .int .i64 i, .slice (some ⟨vb,0,none⟩) 1 vc] w fun e w' =>
   e= .returned (.slice (some ⟨b,0,none⟩) (n+1) c)/\w' =(w.drew.setCells b ((i+1)*K) (cs.drop (i*K))).setCells b (i*K) vs
 end_room:∀(b n c vb vc:Nat) (vs:List Value) (w:World) (hroom:n+1<=c) (hbig:n+1<=1099511627776)
  (hvl:vs.length=K) (hsp:∀j,j<(n+1)*K->(w.cell? ⟨b,j,none⟩).isSome=true) (hfz:∀j,w.frozen? ⟨b,j,none⟩=false)
  (hvs:∀j v,vs[j]? =some v->w.cell? ⟨vb,j,none⟩=some v) (h1v:∀v∈vs,v.oneCell' =true),
  Calls P f #[.slice (some ⟨b,0,none⟩) n c, .int .i64 n, .slice (some ⟨vb,0,none⟩) 1 vc] w fun e w' =>
   e= .returned (.slice (some ⟨b,0,none⟩) (n+1) c)/\w' =w.setCells b (n*K) vs
 end_grow:∀(base:Option Addr) (n c vb vc:Nat) (cs vs:List Value) (w:World) (hnc:n<=c) (hroom:c<n+1) (hbig:n+1<=1099511627776)
  (hcl:cs.length=n*K) (hvl:vs.length=K) (hnil:base=none->n=0)
  (hcs:∀a,base=some a-> ∀j v,cs[j]? =some v->w.cell? (a.add j)=some v)
  (hvs:∀j v,vs[j]? =some v->w.cell? ⟨vb,j,none⟩=some v) (h1v:∀v∈vs,v.oneCell' =true),
  Calls P f #[.slice base n c, .int .i64 n, .slice (some ⟨vb,0,none⟩) 1 vc] w fun e w' =>
   ∃(g:Nat) (rest:Array Value),n+1<=g/\rest.size=(g - (n+1))*K/\e= .returned (.slice (some ⟨w.heap.size,0,none⟩) (n+1) g)/\
   w' =w.drew.alloc (.cells ((cs++vs).toArray++rest) tE)
 grow:∀(b n c i vb vc:Nat) (cs vs:List Value) (w:World) (hi:i<n) (hnc:n<=c) (hroom:c<n+1) (hbig:n+1<=1099511627776)
  (hcl:cs.length=n*K) (hvl:vs.length=K)
  (hcs:∀j v,cs[j]? =some v->w.cell? ⟨b,j,none⟩=some v)
  (hvs:∀j v,vs[j]? =some v->w.cell? ⟨vb,j,none⟩=some v) (h1c:∀v∈cs,v.oneCell' =true) (h1v:∀v∈vs,v.oneCell' =true),
  Calls P f #[.slice (some ⟨b,0,none⟩) n c, .int .i64 i, .slice (some ⟨vb,0,none⟩) 1 vc] w fun e w' =>
   ∃(g:Nat) (row:Array Value),n+1<=g/\row.size=g*K/\(∀j,j<i*K->row[j]? =cs[j]?)/\e= .returned (.slice (some ⟨w.heap.size,0,none⟩) (n+1) g)/\
   w' =((w.alloc (.cells row tE)).drew.setCells w.heap.size (i*K) vs).drew.setCells w.heap.size ((i+1)*K) (cs.drop (i*K))
section
variable {C:Cx} {H:z0a} {B:List (Option Nat)} {w w' :World}
theorem z0j {rb:Nat} :∀(vs:List Value) (o:Nat) {w:World} {cs:Array Value},Cells w rb cs->o+vs.length<=cs.size->
 ∃cs',Cells (w.setCells rb o vs) rb cs' /\cs'.size=cs.size/\(∀k,cs'[k]? =if o<=k/\k<o+vs.length then vs[k - o]? else cs[k]?)/\(w.setCells rb o vs).heap.size=w.heap.size/\
  (∀b,b≠rb->(w.setCells rb o vs).heap[b]? =w.heap[b]?)/\(w.setCells rb o vs).os=w.os/\(w.setCells rb o vs).tape=w.tape/\(w.setCells rb o vs).output=w.output
 | [],o,w,cs,h,_=>⟨cs,h,rfl,fun k=>by rw[Ao (by simp)],rfl,fun _ _=>rfl,rfl,rfl,rfl⟩ | v::r,o,w,cs,h,hl=>by
  have hlt:=h.lt;obtain⟨el,h⟩:=h;have h1:Cells (w.setCell ⟨rb,o,none⟩ v) rb (cs.setIfInBounds o v):=by
   refine⟨el,?_⟩;rw[heap_setCell_same w rb o cs el v h]
  simp only[Bc] at hl;obtain⟨cs',k1,k2,k3,k4,k5,k6,k7,k8⟩:=z0j r (o+1) h1 (by simp;omega);have hz:(w.setCell ⟨rb,o,none⟩ v).heap.size=w.heap.size:=by simp[World.setCell]
  refine⟨cs',k1,by simpa using k2,fun k=> ?_,k4.trans hz,fun b hb=>(k5 b hb).trans (heap_setCell_other w _ b v hb),k6,k7,k8⟩;rw[k3];simp only[Bc];by_cases q:o+1<=k/\k<o+1+r.length
  .rw[Al q,Al (by omega),show k - o=(k - (o+1))+1 by omega,Gh]
  .rw[Ao q,Array.getElem?_setIfInBounds];by_cases q2:o=k
   .subst q2;rw[Al rfl,Al (by omega),Al (by omega),Dw];rfl
   .rw[Ao q2,Ao (by omega)]
theorem z8b {rb:Nat} {cs cs' :Array Value} (h1:Cells w rb cs) (hsame:∀b,b<w.heap.size->b≠rb->w'.heap[b]? =w.heap[b]?) (h2:Cells w' rb cs') (hs:cs'.size=cs.size):∀b c1,Cells w b c1-> ∃c2,Cells w' b c2/\c2.size=c1.size:=by
 intro b c1 k;by_cases q:b=rb
 .subst q;rw[z5l k h1];exact⟨cs',h2,hs⟩
 .have hlt:=k.lt;obtain⟨el,k⟩:=k;exact⟨c1,⟨el,by rw[hsame b hlt q];exact k⟩,rfl⟩
theorem z3l (w:World) (cs:Array Value) (el:TypeId):Cells (w.alloc (.cells cs el)) w.heap.size cs/\(w.alloc (.cells cs el)).heap.size=w.heap.size+1/\(∀b,b<w.heap.size->(w.alloc (.cells cs el)).heap[b]? =w.heap[b]?):=by
 have e:(w.alloc (.cells cs el)).heap=w.heap.push (.cells cs el (0,0)):=rfl;refine⟨⟨el,by rw[e];simp⟩,by rw[e];simp,fun b hb=> ?_⟩;rw[e,Array.getElem?_push_lt hb];simp[hb]
theorem y6h {cs:Array Value} (h:∀v∈cs.toList,v.oneCell' =true) (l:List Value) (hl:∀v∈l,v∈cs.toList):∀v∈l,v.oneCell' =true:=fun v hv=>h v (hl v hv)
theorem y4a {P:Program} {f K tE:Nat} (hK:0<K) (R:InsRoads P f K tE) (w:World) (ob:Option Nat) (n c i:Nat) (hi:i<=n) (hnc:n<=c) (hcap:n+1<=1099511627776) (vb vc:Nat) (csv:Array Value) (hv:Cells w vb csv) (hvK:K<=csv.size)
 (v1:∀u∈csv.toList.take K,u.oneCell' =true) (hne:ob≠some vb) (old:Array Value) (hold:∀rb,ob=some rb->Cells w rb old/\c*K<=old.size) (h0:ob=none->n=0/\c=0) (o1:∀u∈old.toList.take (n*K),u.oneCell' =true):
 Calls P f #[.slice (ob.map fun rb=>⟨rb,0,none⟩) n c, .int .i64 i, .slice (some ⟨vb,0,none⟩) 1 vc] w fun e w' =>
  ∃(rb' :Nat) (cs' :Array Value) (c' :Nat),e= .returned (.slice (some ⟨rb',0,none⟩) (n+1) c')/\n+1<=c' /\Cells w' rb' cs' /\c' *K<=cs'.size/\
   (∀k,k<(n+1)*K->cs'[k]? =if k<i*K then old[k]? else if k<(i+1)*K then csv[k - i*K]? else old[k - K]?)/\
   (ob=some rb' \/(w.heap.size<=rb' /\rb' <w'.heap.size))/\w.heap.size<=w'.heap.size/\(∀b,b<w.heap.size->ob≠some b->w'.heap[b]? =w.heap[b]?)/\
   (∀b c1,Cells w b c1-> ∃c2,Cells w' b c2/\c2.size=c1.size)/\w'.os=w.os/\w'.tape=w.tape/\w'.output=w.output:=by
 have hiK:i*K<=n*K:=Bo K hi;have e1:(i+1)*K=i*K+K:=C7 i K;have e2:(n+1)*K=n*K+K:=C7 n K;have hncK:n*K<=c*K:=Bo K hnc;have hvs:∀j v,(csv.toList.take K)[j]? =some v->w.cell? ⟨vb,j,none⟩=some v:=fun j v hj=>by
  rw[z0c hv];rw[Ca] at hj;split at hj
  .simpa using hj
  .cases hj
 have hvl:(csv.toList.take K).length=K:=by simp;omega
 cases ob with
 | none=>
  obtain⟨rfl,rfl⟩:=h0 rfl;have hi0:i=0:=by omega
  subst hi0;refine Calls.mono (R.end_grow none 0 0 vb vc [] (csv.toList.take K) w (Au _) (by omega) (by omega) (by simp) hvl (fun _=>rfl) (fun a e=>by cases e) hvs v1) ?_
  rintro e w' ⟨g,rest,hg,hrs,rfl,rfl⟩
  obtain⟨a1,a2,a3⟩:=z3l w.drew (([] ++csv.toList.take K).toArray++rest) tE;have hsz:(([] ++csv.toList.take K).toArray++rest).size=g*K:=by
   rw[Fb,hrs];simp only[Cf,List.size_toArray,hvl];have:g*K=(g - (0+1))*K+1*K:=by rw[←Cl];congr 1;omega
   omega
  refine⟨w.heap.size,_,g,rfl,hg,a1,by rw[hsz];exact Au _,fun k hk=> ?_, .inr ⟨Au _,by rw[a2];exact Gv _⟩,by rw[a2];exact Nat.le_succ _,fun b hb _=>a3 b hb,fun b c1 k=>⟨c1,?_,rfl⟩,rfl,rfl,rfl⟩
  .rw[Ao (by omega),Al (by omega)];simp only[Cf];rw[C6 (by simp;omega)];simp[Ca];intro q;omega
  .have hlt:=k.lt;obtain⟨el,k⟩:=k;exact⟨el,(a3 b hlt).trans k⟩
 | some rb=>
  obtain⟨ho,hroomC⟩:=hold rb rfl;have hvb:vb≠rb:=fun e=>hne (by rw[e])
  have hcs:∀j v,(old.toList.take (n*K))[j]? =some v->w.cell? ⟨rb,j,none⟩=some v:=fun j v hj=>by
   rw[z0c ho];rw[Ca] at hj;split at hj
   .simpa using hj
   .cases hj
  have hcl:(old.toList.take (n*K)).length=n*K:=by simp;omega
  have hfz:∀j,w.frozen? ⟨rb,j,none⟩=false:=fun j=>z0u ho j
  have hcell:∀j,j<old.size->(w.cell? ⟨rb,j,none⟩).isSome=true:=fun j hj=>by rw[z0c ho];simp[hj]
  have hsame2:∀ {w' :World},(∀b,b≠rb->w'.heap[b]? =w.heap[b]?)-> ∀b,b<w.heap.size->some rb≠some b->w'.heap[b]? =w.heap[b]? :=fun h b _ hb=>h b (fun e=>hb (by rw[e]))
  by_cases hroom:n+1<=c
  .have hrK:(n+1)*K<=c*K:=Bo K hroom;rcases B8 i n with hin | hin
   .obtain⟨elv,hv'⟩:=hv;obtain⟨elo,ho'⟩:=ho;have hv:Cells w vb csv:=⟨elv,hv'⟩;have ho:Cells w rb old:=⟨elo,ho'⟩
    refine Calls.mono (R.shift rb n c i vb vc (old.toList.take (n*K)) (csv.toList.take K) w hin hroom hcap hvb hcl hvl hcs (fun j hj=>hcell j (by omega)) hfz hvs o1 v1 elv elo csv.size old.size
     (by simp[World.shape?,hv']) (by simp[World.shape?,ho']) (by omega) (z0u hv _) (z0u hv _)) ?_
    rintro e w' ⟨rfl,rfl⟩
    have hdl:((old.toList.take (n*K)).drop (i*K)).length=n*K - i*K:=by rw[F0,hcl]
    obtain⟨c1,g1,g2,g3,g4,g5,g6,g7,g8⟩:=z0j (w:=w.drew) ((old.toList.take (n*K)).drop (i*K)) ((i+1)*K) (cs:=old) (rb:=rb) ho (by rw[hdl];omega);obtain⟨c2,k1,k2,k3,k4,k5,k6,k7,k8⟩:=z0j (csv.toList.take K) (i*K) g1 (by rw[hvl];omega);refine⟨rb,c2,c,rfl,hroom,k1,by rw[k2,g2];exact hroomC,fun k hk=> ?_, .inl rfl,by rw[k4,g4];exact Au _,hsame2 fun b hb=>(k5 b hb).trans (g5 b hb),z8b ho (fun b _ hb=>(k5 b hb).trans (g5 b hb)) k1 (k2.trans g2),k6.trans g6,k7.trans g7,k8.trans g8⟩;rw[k3,hvl,g3,hdl];by_cases q1:k<i*K
    .rw[Ao (by omega),Ao (by omega),Al q1]
    .rw[Ao q1];by_cases q2:k<(i+1)*K
     .rw[Al q2,Al (by omega)];rw[Ca,Al (by omega)];simp
     .rw[Ao q2,Ao (by omega),Al (by omega),Dg,Ca,Al (by omega)];rw[show i*K+(k - (i+1)*K)=k - K by omega];simp
   .have hin' :i=n:=by omega
    subst hin';refine Calls.mono (R.end_room rb i c vb vc (csv.toList.take K) w hroom hcap hvl (fun j hj=>hcell j (by omega)) hfz hvs v1) ?_
    rintro e w' ⟨rfl,rfl⟩
    obtain⟨c2,k1,k2,k3,k4,k5,k6,k7,k8⟩:=z0j (csv.toList.take K) (i*K) ho (by rw[hvl];omega);refine⟨rb,c2,c,rfl,hroom,k1,by rw[k2];exact hroomC,fun k hk=> ?_, .inl rfl,by rw[k4];exact Au _,hsame2 k5,z8b ho (fun b _ hb=>k5 b hb) k1 k2,k6,k7,k8⟩;rw[k3,hvl];by_cases q1:k<i*K
    .rw[Ao (by omega),Al q1]
    .rw[Ao q1,Al (by omega),Al (by omega),Ca,Al (by omega)];simp
  .rcases B8 i n with hin | hin
   .refine Calls.mono (R.grow rb n c i vb vc (old.toList.take (n*K)) (csv.toList.take K) w hin hnc (by omega) hcap hcl hvl hcs hvs o1 v1) ?_
    rintro e w' ⟨g,row,hg,hrs,hrow,rfl,rfl⟩
    have hgK:(n+1)*K<=g*K:=Bo K hg;have hdl:((old.toList.take (n*K)).drop (i*K)).length=n*K - i*K:=by rw[F0,hcl]
    obtain⟨a1,a2,a3⟩:=z3l w row tE;obtain⟨c1,g1,g2,g3,g4,g5,g6,g7,g8⟩:=z0j (w:=(w.alloc (.cells row tE)).drew) (csv.toList.take K) (i*K) (cs:=row) (rb:=w.heap.size) a1 (by rw[hvl];omega);obtain⟨c2,k1,k2,k3,k4,k5,k6,k7,k8⟩:=z0j (w:=((w.alloc (.cells row tE)).drew.setCells w.heap.size (i*K) (csv.toList.take K)).drew) ((old.toList.take (n*K)).drop (i*K)) ((i+1)*K) (cs:=c1) (rb:=w.heap.size) g1 (by rw[hdl];omega);have hsame:∀b,b<w.heap.size->(((w.alloc (.cells row tE)).drew.setCells w.heap.size (i*K) (csv.toList.take K)).drew.setCells w.heap.size ((i+1)*K) ((old.toList.take (n*K)).drop (i*K))).heap[b]? =w.heap[b]? :=fun b hb=>(k5 b (by omega)).trans ((g5 b (by omega)).trans (a3 b hb))
    have hszz:(((w.alloc (.cells row tE)).drew.setCells w.heap.size (i*K) (csv.toList.take K)).drew.setCells w.heap.size ((i+1)*K) ((old.toList.take (n*K)).drop (i*K))).heap.size=w.heap.size+1:=k4.trans (g4.trans a2);refine⟨w.heap.size,c2,g,rfl,hg,k1,by rw[k2,g2,hrs];exact Au _,fun k hk=> ?_, .inr ⟨Au _,by rw[hszz];exact Gv _⟩,by rw[hszz];exact Nat.le_succ _,fun b hb _=>hsame b hb,fun b c1 k=>⟨c1,?_,rfl⟩,k6.trans g6,k7.trans g7,k8.trans g8⟩
    .rw[k3,hdl,g3,hvl];by_cases q1:k<i*K
     .rw[Ao (by omega),Ao (by omega),Al q1,hrow k q1,Ca,Al (by omega)];simp
     .rw[Ao q1];by_cases q2:k<(i+1)*K
      .rw[Al q2,Ao (by omega),Al (by omega)];rw[Ca,Al (by omega)];simp
      .rw[Ao q2,Al (by omega),Dg,Ca,Al (by omega)];rw[show i*K+(k - (i+1)*K)=k - K by omega];simp
    .have hlt:=k.lt;obtain⟨el,k⟩:=k;exact⟨el,(hsame b hlt).trans k⟩
   .have hin' :i=n:=by omega
    subst hin';refine Calls.mono (R.end_grow (some ⟨rb,0,none⟩) i c vb vc (old.toList.take (i*K)) (csv.toList.take K) w hnc (by omega) hcap hcl hvl (fun e=>by cases e) (fun a e j v hj=>by cases e;rw[z2p,Co];exact hcs j v hj) hvs v1) ?_
    rintro e w' ⟨g,rest,hg,hrs,rfl,rfl⟩
    obtain⟨a1,a2,a3⟩:=z3l w.drew ((old.toList.take (i*K)++csv.toList.take K).toArray++rest) tE;have hsz:((old.toList.take (i*K)++csv.toList.take K).toArray++rest).size=g*K:=by
     rw[Fb,hrs];simp only[List.size_toArray,Ba,hvl,hcl];have:g*K=(g - (i+1))*K+(i+1)*K:=by rw[←Cl];congr 1;omega
     omega
    refine⟨w.heap.size,_,g,rfl,hg,a1,by rw[hsz];exact Au _,fun k hk=> ?_, .inr ⟨Au _,by rw[a2];exact Gv _⟩,by rw[a2];exact Nat.le_succ _,fun b hb _=>a3 b hb,fun b c1 k=>⟨c1,?_,rfl⟩,rfl,rfl,rfl⟩
    .rw[C6 (by simp;omega),List.getElem?_toArray];by_cases q1:k<i*K
     .rw[Al q1,Aj (by rw[hcl];exact q1),Ca,Al q1];simp
     .rw[Ao q1,Al (by omega),Aq (by rw[hcl];omega),hcl,Ca,Al (by omega)];simp
    .have hlt:=k.lt;obtain⟨el,k⟩:=k;exact⟨el,(a3 b hlt).trans k⟩
def z6d (t:Ty):Sig:= {ins:= .pair (.own true t) (.pair (.int .i64) (.own true t)),inout:= [],out:= .own true t,nres:=1}
theorem z8e {N:Nat->Prop} {t:Ty} {l:List t.den} {cs:Array Value} (hd:∀i,(hi:i<l.length)-> ∃us,Dat N w t l[i] us/\ ∀j,j<t.size->cs[i*t.size+j]? =us[j]?):∀u∈cs.toList.take (l.length*t.size),u.oneCell' =true:=by
 intro u hu;obtain⟨k,hk,rfl⟩:=B7 hu;have hk1:k<l.length*t.size:=by
  have:=hk;simp only[Ec] at this;omega
 have hp:=t.size_pos;have hi:k / t.size<l.length:=(Nat.div_lt_iff_lt_mul hp).2 hk1;obtain⟨us,k1,k2⟩:=hd (k / t.size) hi;have hm:=k2 (k % t.size) (Ev _ hp);rw[Fk,Nat.div_add_mod] at hm;refine k1.one _ ?_;rw[Fc];have hks:k<cs.size:=by
  simp only[Ec,B6] at hk;omega
 have e:cs[k]? =some cs.toList[k] :=by simp[hks]
 rw[e] at hm;exact Dn hm.symm
theorem y6o {P:Program} {f tE:Nat} {t:Ty} (R:InsRoads P f t.size tE) {gd:Guard} {x:List t.den×Int×List t.den} {y:List t.den} (h:y2u t x=some y):z1n P gd f (z6d t) x y:=by
 obtain⟨l,n0,v⟩:=x;unfold y2u at h;simp only at h;cases hb:(decide (0<=n0)&&decide (n0<=(l.length:Int))&&Nat.ble (l.length+1) z7z&&Nat.beq v.length 1) with
 | false=>rw[hb] at h;cases h | true=>
  rw[hb] at h;simp only[Ad,Ac] at h;simp only[Ai,Ar] at hb;obtain⟨⟨⟨hn0,hn1⟩,hcap⟩,hv1⟩:=hb;have hcap:l.length+1<=1099511627776:=Cw hcap;have hv1:=Av hv1;obtain⟨e,rfl⟩:∃e,v= [e] :=List.length_eq_one_iff.1 hv1;obtain⟨i,rfl⟩:∃i:Nat,n0=(i:Int):=⟨n0.toNat,by omega⟩;have hi:i<=l.length:=by omega
  rw[zTn] at h;intro C B args hgd hs hc;have hs:HS C [.arr true 0 t l, .arr true 0 t [e]] B C.w0:=hs;have hc:CRs (C.N B) (C.Np B) [.arr true 0 t l, .arr true 0 t [e]] B C.w0 [.hd 0 0, .int .i64 i, .hd 1 0] args:=hc;simp only[CRs,CR] at hc;obtain⟨u1,_,rfl,hu1,_,_,rfl,rfl,u3,_,rfl,hu3,rfl⟩:=hc;obtain⟨⟨_,hone⟩,hp⟩:=hu1;have hH0:([.arr true 0 t l, .arr true 0 t [e]] :z0a)[0]? =some (.arr true 0 t l):=rfl;have hH1:([.arr true 0 t l, .arr true 0 t [e]] :z0a)[1]? =some (.arr true 0 t [e]):=rfl;obtain⟨_,hp⟩:=hp _ _ _ _ hH0;obtain⟨a,c,rfl,hcl,hr⟩:=hp rfl;obtain⟨_,hq⟩:=hu3.2 _ _ _ _ hH1;obtain⟨av,vc,rfl,hvcl,hrv⟩:=hq rfl;have hBl:B.length=2:=hs.lenB;obtain⟨ob,hB⟩:∃ob,B[0]? =some ob:=⟨_,A4 (by omega)⟩;obtain⟨obv,hBv⟩:∃ob,B[1]? =some ob:=⟨_,A4 (by omega)⟩;have hbr:=hs.blk 0 _ _ hH0 hB;have hbrv:=hs.blk 1 _ _ hH1 hBv;unfold RowP at hr hrv;rw[hB] at hr;rw[hBv] at hrv;cases obv with
  | none=>
   simp only[BR] at hbrv;cases hbrv
  | some vb=>
   simp only at hrv;obtain⟨rfl,csv0,hcsv0,_⟩:=hrv;obtain⟨csv,hcsv,hvsz,hvd⟩:=hbrv;obtain⟨ue,he1,he2⟩:=hvd 0 (by simp);simp only[Gn] at he1;have he2:∀j,j<t.size->csv[j]? =ue[j]? :=fun j hj=>by have:=he2 j hj;rwa [Nat.zero_mul,Co] at this
   have hK:=t.size_pos;have hone1:∀u∈csv.toList.take t.size,u.oneCell' =true:=by
    have:=z8e hvd;simpa using this
   obtain⟨old,hold,h0,o1,hdat,haddr⟩:∃old:Array Value,(∀rb,ob=some rb->Cells C.w0 rb old/\c*t.size<=old.size)/\(ob=none->l.length=0/\c=0)/\(∀u∈old.toList.take (l.length*t.size),u.oneCell' =true)/\
    (∀i,(hi:i<l.length)-> ∃us,Dat (C.Np B) C.w0 t l[i] us/\ ∀j,j<t.size->old[i*t.size+j]? =us[j]?)/\a=ob.map fun rb=>(⟨rb,0,none⟩:Addr):=by
    cases ob with
    | none=>
     simp only at hr;simp only[BR] at hbr;subst hbr;exact⟨#[],(fun _ e=>by cases e),(fun _=>⟨rfl,hr.2⟩),(fun u hu=>by simp at hu),(fun i hi=>absurd hi (Ee i)),hr.1⟩
    | some rb=>
     simp only at hr;obtain⟨rfl,cs0,hcs0,hroom⟩:=hr;obtain⟨cs,hcs,hsz,hd⟩:=hbr;have:=z5l hcs0 hcs;subst this;exact⟨cs0,(fun rb' e=>by cases e;exact⟨hcs0,by simpa using hroom⟩),(fun e=>by cases e),z8e hd,hd,by simp⟩
   subst haddr;have hne:ob≠some vb:=fun e=>by
    have:=hs.nodup 0 1 vb (by rw[hB,e]) hBv;cases this
   have hz:(⟨vb,0*t.size,none⟩:Addr)=⟨vb,0,none⟩:=by simp
   rw[hz];simp only[Aw];refine Calls.mono (y4a hK R C.w0 ob l.length c i hi hcl hcap vb vc csv hcsv (by simpa using hvsz) hone1 hne old hold h0 o1) ?_
   rintro e0 w' ⟨rb',cs',c',rfl,hc',hcs',hroom',hget,hob,hsz',hsame,hall,h1,h2,h3⟩
   have hyl:y.length=l.length+1:=by rw[←h];simp;omega
   have e1:(i+1)*t.size=i*t.size+t.size:=C7 i t.size;have hnew:=hs.st.upd (blk:= .arr true 1 t y) (ob' :=some rb') hH0 hB hsz' hsame hall h1 h2 h3 (by
    rcases hob with q | ⟨q1,q2⟩
    .exact .inl q.symm
    .exact .inr (.inr ⟨rb',rfl,q1,q2⟩)) ⟨_,_,_,_,rfl,by omega,fun z=>by omega⟩ (fun s=>⟨cs',hcs',by rw[hyl];exact A9 (Bo _ hc') hroom',fun q hq=>by
    rw[hyl] at hq;have hqK:(q+1)*t.size<=(l.length+1)*t.size:=Bo _ hq;rw[C7] at hqK;rcases Gk q i with z | z | z
    .obtain⟨us,m1,m2⟩:=hdat q (by omega);refine⟨us,?_,fun j hj=> ?_⟩
     .have e2:y[q] =l[q] :=by
       subst h;rw[Ck (by simp;omega),Ck (by simp;omega),Fc]
      rw[e2];exact m1.mono (z2k s true)
     .have:(q+1)*t.size<=i*t.size:=Bo _ z;rw[C7] at this;rw[hget _ (by omega),Al (by omega),m2 j hj]
    .subst z;refine⟨ue,?_,fun j hj=> ?_⟩
     .have e2:y[q] =e:=by
       subst h;rw[Ck (by simp;omega),Cv (by simp;omega)];simp
      rw[e2];exact he1.mono (z2k s true)
     .rw[hget _ (by omega),Ao (by omega),Al (by omega),←he2 j hj];congr 1;omega
    .obtain⟨us,m1,m2⟩:=hdat (q - 1) (by omega);refine⟨us,?_,fun j hj=> ?_⟩
     .have e2:y[q] =l[q - 1] :=by
       subst h;have hli:(l.take i).length=i:=by simp;omega
       rw[Cv (by simp;omega),List.getElem_drop];congr 1;simp;omega
      rw[e2];exact m1.mono (z2k s true)
     .have hq1:(i+1)*t.size<=q*t.size:=Bo _ z;have hq2:q*t.size=(q - 1)*t.size+t.size:=by rw[←C7];congr 1;omega
      rw[hget _ (by omega),Ao (by omega),Ao (by omega),←m2 j hj];congr 1;omega⟩)
   refine⟨_,_, [.hd 0 1], [_], [(0,true)],hnew.hs,?_,by simp[z6d,ext,Used.has,imp,z2r,Nat.beq],rfl,rfl⟩;simp only[z0z,z6d,CRs,CR,Bw];refine⟨_,_,rfl,⟨⟨by simp,rfl⟩,fun p st t' l' e=> ?_⟩,rfl⟩;simp only[Hj,Bt] at e;cases e;refine⟨Au _,fun _=>⟨_,c',by rw[hyl],by omega,?_⟩⟩;unfold RowP;have hB' :(B.set 0 (some rb'))[0]? =some (some rb'):=by rw[Cb];simp[show 0<B.length by omega]
   rw[hB'];exact⟨by simp,cs',hcs',by simpa using hroom'⟩
end
end
end Go.Proofs.YtkphhjdbdnoekaaGreatDoor.Ab
