import Derived.Test.YtkphhjdbdnoekaaGreatDoorAbS3
import Derived.Test.YtkphhjdbdnoekaaGreatDoorProg
namespace Go.Proofs.YtkphhjdbdnoekaaGreatDoor.Ab

section
open Go Go.Proofs Go.Lib Go.RowKit
set_option linter.unusedVariables false
set_option linter.unusedSimpArgs false
set_option linter.unnecessarySimpa false
set_option linter.unusedVariables false
set_option linter.unusedSimpArgs false
set_option maxHeartbeats 4000000 in
set_option maxRecDepth 100000 in
theorem j4a (b n c i vb vc:Nat) (cs vs:List Value) (w:World) (hi:i<n) (hroom:n+1<=c) (hbig:n+1<=1099511627776) (hvb:vb≠b)
 (hcl:cs.length=n*3) (hvl:vs.length=3)
 (hcs:∀j v,cs[j]? =some v->w.cell? ⟨b,j,none⟩=some v) (hsp:∀j,j<(n+1)*3->(w.cell? ⟨b,j,none⟩).isSome=true) (hfz:∀j,w.frozen? ⟨b,j,none⟩=false)
 (hvs:∀j v,vs[j]? =some v->w.cell? ⟨vb,j,none⟩=some v) (h1c:∀v∈cs,v.oneCell' =true) (h1v:∀v∈vs,v.oneCell' =true)
 (tA tB:TypeId) (kA kB:Nat) (hsa:w.shape? vb=some (tA,kA)) (hsb:w.shape? b=some (tB,kB)) (hkB:kB≠0) (hfa:w.frozen? ⟨vb,0,none⟩=false) (hfe:w.frozen? ⟨vb,kA,none⟩=false):
 Calls Tryz.prog 167 #[.slice (some ⟨b,0,none⟩) n c, .int .i64 i, .slice (some ⟨vb,0,none⟩) 1 vc] w fun e w' =>
  e= .returned (.slice (some ⟨b,0,none⟩) (n+1) c)/\w' =(w.drew.setCells b ((i+1)*3) (cs.drop (i*3))).setCells b (i*3) vs:=by
 have t3:=Tryz.underlying3;have a3:=Tryz.isAgg3;have z3:=Tryz.sizeOf3;have v3:=Tryz.zeroValue3;have t4:=Tryz.underlying4;have a4:=Tryz.isAgg4;have z4:=Tryz.sizeOf4;have v4:=Tryz.zeroValue4;have t50:=Tryz.underlying100;have a50:=Tryz.isAgg100;have z50:=Tryz.sizeOf100;have v50:=Tryz.zeroValue100;have z170:=Tryz.sizeOf73;have u3:=run_underlying Tryz.underlying3;have u4:=run_underlying Tryz.underlying4;have u50:=run_underlying Tryz.underlying100;have hz2: ¬((i:Int)=(n:Int)):=by omega
 have hsz:(Tryz.prog.info? 73).map (·.size)=some 3:=by kernel_rfl
 have hov:∀o lb cb,(callFunc 246 #[.slice (some ⟨vb,0,none⟩) 1 vc, .slice (some ⟨b,o,none⟩) lb cb]).run Tryz.prog w= .ok (.value (.bool false)) w:=fun o lb cb=>by
  rw[run_callFunc_extern Tryz.func246 (by kernel_rfl) (by kernel_rfl) (by kernel_rfl) (e:=Extern.SlicesOverlaps.overlaps #[100,100] #[4]) (by kernel_rfl),
   Lib.run_overlaps_apart w 100 4 73 t50 3 z170 ⟨vb,0,none⟩ ⟨b,o,none⟩ 1 vc lb cb hvb tA tB kA kB hsa hsb hkB hfa hfe]
  rfl
 have hdl:(cs.drop (i*3)).length=(n - i)*3:=by rw[F0,hcl];omega
 have mixed:Tryz.prog.follows .mixedOrders=true:=by kernel_rfl
 have hw1:IntKind.i64.wrap ((i:Int)+1)=(i:Int)+1:=by rw[IntKind.wrap_i64];omega
 have hwn:IntKind.i64.wrap ((n:Int)+1)=(n:Int)+1:=by rw[IntKind.wrap_i64];omega
 have hb1:(0:Int)<=(i:Int)+1:=by omega
 have hin:i<=n:=by omega
 have htn:((i:Int)+1).toNat=i+1:=by omega
 have hb2: ¬(c=i+1):=by omega
 have hb3:(i:Int)<=(n:Int)+1:=by omega
 have hb4: ¬(c=i):=by omega
 have hcp1:∀ty dc sc,(Builtin.copy_ #[100,100] ty #[.slice (some ⟨b,(i+1)*3,none⟩) (n - i) dc, .slice (some ⟨b,i*3,none⟩) (n+1 - i) sc]).run Tryz.prog w.drew= .ok (goInt ((n - i:Nat):Int)) (w.drew.setCells b ((i+1)*3) (cs.drop (i*3))):=fun ty dc sc=>
  y3a w.drew _ _ ty 73 b ((i+1)*3) (n - i) dc ⟨b,i*3,none⟩ (n+1 - i) sc (cs.drop (i*3)) 3 (n - i) t50 hsz (by simp only[Nat.min_def];split<;>omega) hdl
   (fun j v hj=>by rw[Addr.add_lit];exact hcs (i*3+j) v (by rwa [Dg] at hj))
   (fun j hj=>hsp _ (by omega)) (fun j hj=>hfz _) (fun v hv=>h1c v (List.mem_of_mem_drop hv))
 obtain⟨W1,hW1⟩:∃W1,W1=w.drew.setCells b ((i+1)*3) (cs.drop (i*3)):=⟨_,rfl⟩;have hsp1:∀k,k<(n+1)*3->(W1.cell? ⟨b,k,none⟩).isSome=true:=fun k hk=>by
  rw[hW1];exact isSome_setCells b (cs.drop (i*3)) ((i+1)*3) w.drew (fun j hj=>hsp _ (by omega)) k (hsp k hk)
 have hcp2:∀(W:World),(∀x,W.cell? x=W1.cell? x)->(∀x,W.frozen? x=W1.frozen? x)-> ∀ty dc,(Builtin.copy_ #[100,100] ty #[.slice (some ⟨b,i*3,none⟩) (n+1 - i) dc, .slice (some ⟨vb,0,none⟩) 1 vc]).run Tryz.prog W= .ok (goInt 1) (W.setCells b (i*3) vs):=fun W hWc hWf ty dc=>
  y3a W _ _ ty 73 b (i*3) (n+1 - i) dc ⟨vb,0,none⟩ 1 vc vs 3 1 t50 hsz (by simp only[Nat.min_def];split<;>omega) (by rw[hvl])
   (fun j v hj=>by
    rw[Addr.add_lit,Co,hWc,hW1,World.cell?_setCells_out b _ _ _ _ (fun h _=>absurd h hvb)];exact hvs j v hj)
   (fun j hj=>by rw[hWc];exact hsp1 _ (by omega)) (fun j hj=>by rw[hWf,hW1,World.frozen?_setCells];exact hfz _) h1v
 rw[←hW1] at hcp1
 go_enter Tryz.func167,Tryz.ntmps167
 go_wp2_with (simp only[hov])
 go_region_law_o (refine step_copy_runI rfl _ _ 100 100 rfl _ _ (by simp[Act.eval,Act.put]) (by simp[Act.eval,Act.put]) (hcp1 _ _ _) ?_)
 go_wp2_with (at_builtin;refine wpList_copy_runI _ rfl _ _ 100 100 rfl _ _ rfl rfl (hcp2 _ (fun _=>rfl) (fun _=>rfl) _ _) ?_)
 go_ret
 first | exact⟨rfl,rfl⟩ | exact⟨rfl,by rw[hW1]⟩
set_option maxHeartbeats 4000000 in
set_option maxRecDepth 100000 in
theorem o31 (b n c vb vc:Nat) (vs:List Value) (w:World) (hroom:n+1<=c) (hbig:n+1<=1099511627776)
 (hvl:vs.length=3) (hsp:∀j,j<(n+1)*3->(w.cell? ⟨b,j,none⟩).isSome=true) (hfz:∀j,w.frozen? ⟨b,j,none⟩=false)
 (hvs:∀j v,vs[j]? =some v->w.cell? ⟨vb,j,none⟩=some v) (h1v:∀v∈vs,v.oneCell' =true):
 Calls Tryz.prog 167 #[.slice (some ⟨b,0,none⟩) n c, .int .i64 n, .slice (some ⟨vb,0,none⟩) 1 vc] w fun e w' =>
  e= .returned (.slice (some ⟨b,0,none⟩) (n+1) c)/\w' =w.setCells b (n*3) vs:=by
 have t3:=Tryz.underlying3;have a3:=Tryz.isAgg3;have z3:=Tryz.sizeOf3;have v3:=Tryz.zeroValue3;have t4:=Tryz.underlying4;have a4:=Tryz.isAgg4;have z4:=Tryz.sizeOf4;have v4:=Tryz.zeroValue4;have t50:=Tryz.underlying100;have a50:=Tryz.isAgg100;have z50:=Tryz.sizeOf100;have v50:=Tryz.zeroValue100;have z170:=Tryz.sizeOf73;have u3:=run_underlying Tryz.underlying3;have u4:=run_underlying Tryz.underlying4;have u50:=run_underlying Tryz.underlying100;have mixed:Tryz.prog.follows .mixedOrders=true:=by kernel_rfl
 have i170:(Tryz.prog.info? 73).map (fun i=>i.size)=some 3:=by kernel_rfl
 obtain⟨i0,hi0,hzs⟩:=Ea.1 i170;have hsrc:Src Tryz.prog i0.size 100 (.slice (some ⟨vb,0,none⟩) 1 vc) 1 vs w:=by
  rw[hzs];exact Src.ofSlice w t50 ⟨vb,0,none⟩ 1 vc vs (by omega) (fun j u hj=>by rw[Addr.add_lit,Co];exact hvs j u hj) h1v
 have hE:w.setCells b (0+n*i0.size) vs=w.setCells b (n*3) vs:=by rw[hzs,Co]
 go_enter Tryz.func167,Tryz.ntmps167
 go_wp2_with (at_builtin;refine wpList_append_room_src _ rfl _ _ 100 100 rfl 73 i0 t50 hi0 b 0 n c rfl _ rfl 1 vs hsrc hroom (by rw[hvl,hzs];intro j hj;exact hsp _ (by omega)) (by intro j hj;exact hfz _) ?_;rw[hE])
 go_ret
 exact⟨rfl,rfl⟩
set_option maxHeartbeats 4000000 in
set_option maxRecDepth 100000 in
theorem o30 (base:Option Addr) (n c vb vc:Nat) (cs vs:List Value) (w:World) (hnc:n<=c) (hroom:c<n+1) (hbig:n+1<=1099511627776)
 (hcl:cs.length=n*3) (hvl:vs.length=3) (hnil:base=none->n=0)
 (hcs:∀a,base=some a-> ∀j v,cs[j]? =some v->w.cell? (a.add j)=some v)
 (hvs:∀j v,vs[j]? =some v->w.cell? ⟨vb,j,none⟩=some v) (h1v:∀v∈vs,v.oneCell' =true):
 Calls Tryz.prog 167 #[.slice base n c, .int .i64 n, .slice (some ⟨vb,0,none⟩) 1 vc] w fun e w' =>
  ∃(g:Nat) (rest:Array Value),n+1<=g/\rest.size=(g - (n+1))*3/\e= .returned (.slice (some ⟨w.heap.size,0,none⟩) (n+1) g)/\
  w' =w.drew.alloc (.cells ((cs++vs).toArray++rest) 73):=by
 have t3:=Tryz.underlying3;have a3:=Tryz.isAgg3;have z3:=Tryz.sizeOf3;have v3:=Tryz.zeroValue3;have t4:=Tryz.underlying4;have a4:=Tryz.isAgg4;have z4:=Tryz.sizeOf4;have v4:=Tryz.zeroValue4;have t50:=Tryz.underlying100;have a50:=Tryz.isAgg100;have z50:=Tryz.sizeOf100;have v50:=Tryz.zeroValue100;have z170:=Tryz.sizeOf73;have u3:=run_underlying Tryz.underlying3;have u4:=run_underlying Tryz.underlying4;have u50:=run_underlying Tryz.underlying100;have mixed:Tryz.prog.follows .mixedOrders=true:=by kernel_rfl
 have i170:(Tryz.prog.info? 73).map (fun i=>(i.zero.map (fun z=>z.cells.size),i.size,decide (i.bytes<=128)))=some (some 3,3,true):=by kernel_rfl
 obtain⟨i0,hi0,hzz⟩:=Ea.1 i170;simp only[Ak] at hzz;obtain⟨hz0,hzs,hzb⟩:=hzz;obtain⟨z,hz,hzc⟩:=Ea.1 hz0;have hzb:=Ej hzb;have hsrc:Src Tryz.prog i0.size 100 (.slice (some ⟨vb,0,none⟩) 1 vc) 1 vs w:=by
  rw[hzs];exact Src.ofSlice w t50 ⟨vb,0,none⟩ 1 vc vs (by omega) (fun j u hj=>by rw[Addr.add_lit,Co];exact hvs j u hj) h1v
 have hold:(Builtin.firstCells i0.size n (.slice base n c)).run Tryz.prog w.drew= .ok cs.toArray w.drew:=by
  rw[hzs];cases base with
  | none=>
   have h0:=hnil rfl;subst h0;rw[Dk.1 hcl];exact run_firstCells_none w.drew 3 0 0 c
  | some a=>exact run_firstCells_some w.drew 3 n a n c cs (by omega) (fun j v hj=>hcs a rfl j v hj)
 have hrun:∀ty,(Builtin.append_ #[100,100] ty #[.slice base n c, .slice (some ⟨vb,0,none⟩) 1 vc]).run Tryz.prog w=_:=fun ty=>
  run_append_grow_src w 100 100 ty 73 i0 z t50 hi0 hz base n c cs hold _ 1 vs hsrc hroom (by omega) (growslice_fits hroom (by
   have:(n+1)*i0.bytes<=(n+1)*128:=Hb _ hzb;omega))
 obtain⟨rest,hrest⟩:∃rest,rest=Builtin.zeroCells z.cells (grownCap w (n+1) c 73 - (n+1)):=⟨_,rfl⟩;rw[←hrest] at hrun;have hrs:rest.size=(grownCap w (n+1) c 73 - (n+1))*3:=by rw[hrest];simp[Builtin.zeroCells,hzc]
 have hge:=grownCap_ge w (n+1) c 73;clear hrest
 go_enter Tryz.func167,Tryz.ntmps167
 cases base with
 | none=>
  have h0:=hnil rfl;subst h0
  go_wp2_with (at_builtin;refine Lib.wpList_append_run _ rfl _ _ _ _ rfl _ _ rfl rfl _ _ (hrun _) ?_)
  go_ret
  exact⟨_,by simpa using hge,rest,by simpa using hrs,rfl,rfl⟩
 | some a=>
  obtain⟨ab,ao,asp⟩:=a
  go_wp2_with (at_builtin;refine Lib.wpList_append_run _ rfl _ _ _ _ rfl _ _ rfl rfl _ _ (hrun _) ?_)
  all_goals (go_ret;first | exact⟨_,hge,rest,hrs,rfl,rfl⟩ | exact⟨_,rest,hge,hrs,rfl,rfl⟩)
set_option maxHeartbeats 4000000 in
set_option maxRecDepth 100000 in
theorem j6j (b n c i vb vc:Nat) (cs vs:List Value) (w:World) (hi:i<n) (hnc:n<=c) (hroom:c<n+1) (hbig:n+1<=1099511627776)
 (hcl:cs.length=n*3) (hvl:vs.length=3)
 (hcs:∀j v,cs[j]? =some v->w.cell? ⟨b,j,none⟩=some v)
 (hvs:∀j v,vs[j]? =some v->w.cell? ⟨vb,j,none⟩=some v) (h1c:∀v∈cs,v.oneCell' =true) (h1v:∀v∈vs,v.oneCell' =true):
 Calls Tryz.prog 167 #[.slice (some ⟨b,0,none⟩) n c, .int .i64 i, .slice (some ⟨vb,0,none⟩) 1 vc] w fun e w' =>
  ∃(g:Nat) (row:Array Value),n+1<=g/\row.size=g*3/\(∀j,j<i*3->row[j]? =cs[j]?)/\e= .returned (.slice (some ⟨w.heap.size,0,none⟩) (n+1) g)/\
  w' =((w.alloc (.cells row 73)).drew.setCells w.heap.size (i*3) vs).drew.setCells w.heap.size ((i+1)*3) (cs.drop (i*3)):=by
 have t3:=Tryz.underlying3;have a3:=Tryz.isAgg3;have z3:=Tryz.sizeOf3;have v3:=Tryz.zeroValue3;have t4:=Tryz.underlying4;have a4:=Tryz.isAgg4;have z4:=Tryz.sizeOf4;have v4:=Tryz.zeroValue4;have t50:=Tryz.underlying100;have a50:=Tryz.isAgg100;have z50:=Tryz.sizeOf100;have v50:=Tryz.zeroValue100;have z170:=Tryz.sizeOf73;have u3:=run_underlying Tryz.underlying3;have u4:=run_underlying Tryz.underlying4;have u50:=run_underlying Tryz.underlying100;have mixed:Tryz.prog.follows .mixedOrders=true:=by kernel_rfl
 have i170:(Tryz.prog.info? 73).map (fun i=>(i.zero.map (fun z=>z.cells.size),i.size,decide (i.bytes<=128)))=some (some 3,3,true):=by kernel_rfl
 have hsz:(Tryz.prog.info? 73).map (·.size)=some 3:=by kernel_rfl
 obtain⟨i0,hi0,hzz⟩:=Ea.1 i170;simp only[Ak] at hzz;obtain⟨hz0,hzs,hzb⟩:=hzz;obtain⟨z,hz,hzc⟩:=Ea.1 hz0;have hzb:=Ej hzb;have hbB:(n+1)*i0.bytes<=(n+1)*128:=Hb _ hzb;have hbB2:(n+1 - i)*i0.bytes<=(n+1 - i)*128:=Hb _ hzb;have hz2: ¬((i:Int)=(n:Int)):=by omega
 have hz3:(c:Int)<(n:Int)+1:=by omega
 have hbw:b<w.heap.size:=block_lt_of_cell (hcs 0 _ (A4 (by omega)));have hvw:vb<w.heap.size:=block_lt_of_cell (hvs 0 _ (A4 (by omega)));have hkk:(n:Int)+1 - (i:Int)=((n+1 - i:Nat):Int):=by omega
 have hik:i+(n+1 - i)=n+1:=by omega
 have hold:(Builtin.firstCells i0.size i (.slice (some ⟨b,0,none⟩) i c)).run Tryz.prog w.drew= .ok (cs.take (i*3)).toArray w.drew:=by
  rw[hzs];exact run_firstCells_some w.drew 3 i ⟨b,0,none⟩ i c (cs.take (i*3)) (by rw[Ec];omega) (fun j v hj=>by
   rw[Addr.add_lit,Co];rw[Ca] at hj;split at hj
   .exact hcs j v hj
   .cases hj)
 have hrz:∀ty,(Builtin.append_ #[100,3] ty #[.slice (some ⟨b,0,none⟩) i c, .int .i64 ((n:Int)+1 - (i:Int))]).run Tryz.prog w=
  .ok (.slice (some ⟨w.heap.size,0,none⟩) (n+1) (grownCap w (n+1) c 73)) (w.drew.alloc (.cells ((cs.take (i*3)).toArray++Builtin.zeroCells z.cells (n+1 - i)++Builtin.zeroCells z.cells (grownCap w (n+1) c 73 - (n+1))) 73)):=fun ty=>by
  have h:=Lib.run_append_grow_zeros w 100 3 ty 73 i0 z .i64 .i64 t50 t3 hi0 hz (some ⟨b,0,none⟩) i c (cs.take (i*3)) hold (n+1 - i) (by omega) (by omega) (by omega) (by omega) (by omega) (by rw[hik];exact growslice_fits hroom (by omega));rw[hik] at h;rw[hkk];exact h
 obtain⟨G,hG⟩:∃G,G=grownCap w (n+1) c 73:=⟨_,rfl⟩;have hGn:n+1<=G:=by rw[hG];exact grownCap_ge w _ _ _
 have hG63:G<=9223372036854775807:=by
  have:=grownCap_le_maxLen w (n+1) c 73 (by unfold maxLen;omega);rw[←hG] at this;unfold maxLen at this;omega
 obtain⟨ROW,hROW⟩:∃ROW:Array Value,ROW=(cs.take (i*3)).toArray++Builtin.zeroCells z.cells (n+1 - i)++Builtin.zeroCells z.cells (G - (n+1)):=⟨_,rfl⟩;rw[←hG] at hrz;rw[←hROW] at hrz;have hRl:ROW.size=G*3:=by
  rw[hROW];simp[Builtin.zeroCells,hzc];omega
 have hRt:∀j,j<i*3->ROW[j]? =cs[j]? :=fun j hj=>by
  rw[hROW,He,C6 (by simp;omega)];simp[Ca,hj]
 have hend:∀W',W' =((w.alloc (.cells ROW 73)).drew.setCells w.heap.size (i*3) vs).drew.setCells w.heap.size ((i+1)*3) (cs.drop (i*3))->
  ∃(g:Nat) (row:Array Value),n+1<=g/\row.size=g*3/\(∀j,j<i*3->row[j]? =cs[j]?)/\Ending.returned (.slice (some ⟨w.heap.size,0,none⟩) (n+1) G)= .returned (.slice (some ⟨w.heap.size,0,none⟩) (n+1) g)/\
  W' =((w.alloc (.cells row 73)).drew.setCells w.heap.size (i*3) vs).drew.setCells w.heap.size ((i+1)*3) (cs.drop (i*3)):=fun W' e=>
  ⟨G,ROW,hGn,hRl,hRt,rfl,e⟩
 obtain⟨W1,hW1⟩:∃W1,W1=w.drew.alloc (.cells ROW 73):=⟨_,rfl⟩;rw[←hW1] at hrz;have hN:∀j,j<(n+1)*3->(W1.cell? ⟨w.heap.size,j,none⟩).isSome=true:=fun j hj=>by
  rw[hW1,World.cell?_alloc_at (w:=w.drew) ROW _ w.heap.size j rfl,Do (by omega)];rfl
 have hNf:∀j,W1.frozen? ⟨w.heap.size,j,none⟩=false:=fun j=>by rw[hW1];exact World.frozen?_alloc_at (w:=w.drew) ROW _ w.heap.size j rfl
 have hOb:∀j v,w.cell? ⟨b,j,none⟩=some v->W1.cell? ⟨b,j,none⟩=some v:=fun j v h=>by rw[hW1,World.cell?_alloc_past (w:=w.drew) _ b j hbw];exact h
 have hOv:∀j v,w.cell? ⟨vb,j,none⟩=some v->W1.cell? ⟨vb,j,none⟩=some v:=fun j v h=>by rw[hW1,World.cell?_alloc_past (w:=w.drew) _ vb j hvw];exact h
 have hcpA:∀(W:World),(∀x,W.cell? x=W1.cell? x)->(∀x,W.frozen? x=W1.frozen? x)-> ∀ty dc,(Builtin.copy_ #[100,100] ty #[.slice (some ⟨w.heap.size,i*3,none⟩) (n+1 - i) dc, .slice (some ⟨vb,0,none⟩) 1 vc]).run Tryz.prog W= .ok (goInt 1) (W.setCells w.heap.size (i*3) vs):=fun W hWc hWf ty dc=>
  y3a W _ _ ty 73 w.heap.size (i*3) (n+1 - i) dc ⟨vb,0,none⟩ 1 vc vs 3 1 t50 hsz (by simp only[Nat.min_def];split<;>omega) (by rw[hvl])
   (fun j v hj=>by rw[Addr.add_lit,Co,hWc];exact hOv _ v (hvs j v hj))
   (fun j hj=>by rw[hWc];exact hN _ (by omega)) (fun j hj=>by rw[hWf];exact hNf _) h1v
 have hGi: ¬(G=i):=by omega
 have hGim: ¬(G=i+1):=by omega
 have hci: ¬(c=i):=by omega
 have hbN:b≠w.heap.size:=by omega
 have hdl:(cs.drop (i*3)).length=(n - i)*3:=by rw[F0,hcl];omega
 have hcpB:∀(W:World),(∀x,W.cell? x=(W1.setCells w.heap.size (i*3) vs).cell? x)->(∀x,W.frozen? x=(W1.setCells w.heap.size (i*3) vs).frozen? x)-> ∀ty dc sc,(Builtin.copy_ #[100,100] ty #[.slice (some ⟨w.heap.size,(i+1)*3,none⟩) (n - i) dc, .slice (some ⟨b,i*3,none⟩) (n - i) sc]).run Tryz.prog W= .ok (goInt ((n - i:Nat):Int)) (W.setCells w.heap.size ((i+1)*3) (cs.drop (i*3))):=fun W hWc hWf ty dc sc=>
  y3a W _ _ ty 73 w.heap.size ((i+1)*3) (n - i) dc ⟨b,i*3,none⟩ (n - i) sc (cs.drop (i*3)) 3 (n - i) t50 hsz (by simp only[Nat.min_def];split<;>omega) hdl
   (fun j v hj=>by
    rw[Addr.add_lit,hWc,World.cell?_setCells_out _ _ _ _ _ (fun h _=>absurd h hbN)];exact hOb _ v (hcs (i*3+j) v (by rwa [Dg] at hj)))
   (fun j hj=>by rw[hWc];exact isSome_setCells w.heap.size vs (i*3) W1 (fun t ht=>hN _ (by omega)) _ (hN _ (by omega)))
   (fun j hj=>by rw[hWf,World.frozen?_setCells];exact hNf _) (fun v hv=>h1c v (List.mem_of_mem_drop hv))
 subst hW1;have hE1:∀x,((w.alloc (.cells ROW 73)).drew).cell? x=(w.drew.alloc (.cells ROW 73)).cell? x:=fun x=>rfl
 have hE2:∀x,((w.alloc (.cells ROW 73)).drew).frozen? x=(w.drew.alloc (.cells ROW 73)).frozen? x:=fun x=>rfl
 have hF1:∀x,(((w.alloc (.cells ROW 73)).drew.setCells w.heap.size (i*3) vs).drew).cell? x=((w.drew.alloc (.cells ROW 73)).setCells w.heap.size (i*3) vs).cell? x:=fun x=>rfl
 have hF2:∀x,(((w.alloc (.cells ROW 73)).drew.setCells w.heap.size (i*3) vs).drew).frozen? x=((w.drew.alloc (.cells ROW 73)).setCells w.heap.size (i*3) vs).frozen? x:=fun x=>rfl
 have hw1:IntKind.i64.wrap ((i:Int)+1)=(i:Int)+1:=by rw[IntKind.wrap_i64];omega
 have hwn:IntKind.i64.wrap ((n:Int)+1)=(n:Int)+1:=by rw[IntKind.wrap_i64];omega
 have hws:IntKind.i64.wrap ((n:Int)+1 - (i:Int))=(n:Int)+1 - (i:Int):=by rw[IntKind.wrap_i64];omega
 have hb1:(0:Int)<=(i:Int)+1:=by omega
 have hin:i<=n:=by omega
 have htn:((i:Int)+1).toNat=i+1:=by omega
 have hb3:(i:Int)<=(n:Int):=by omega
 clear hkk hik hold hROW hG hRl hRt
 go_enter Tryz.func167,Tryz.ntmps167
 go_wp2_with (first
  | (at_builtin;refine Lib.wpList_append_run _ rfl _ _ _ _ rfl _ _ rfl rfl _ _ (hrz _) ?_) | (at_builtin;refine wpList_copy_runI _ rfl _ _ 100 100 rfl _ _ rfl rfl (hcpA _ hE1 hE2 _ _) ?_) | (at_builtin;refine wpList_copy_runI _ rfl _ _ 100 100 rfl _ _ rfl rfl (hcpB _ (fun _=>rfl) (fun _=>rfl) _ _ _) ?_))
 go_region_law_o (refine step_copy_runI rfl _ _ 100 100 rfl (.slice (some ⟨w.heap.size,(i+1)*3,none⟩) (n - i) (G - (i+1))) (.slice (some ⟨b,i*3,none⟩) (n - i) (c - i)) (by simp[Act.eval,Act.put]) (by simp[Act.eval,Act.put]) (hcpB _ hF1 hF2 3 (G - (i+1)) (c - i)) ?_)
 go_wp2
 go_ret
 exact hend _ rfl
theorem d35:InsRoads Tryz.prog 167 3 73:=⟨j4a,o31,o30,j6j⟩
set_option maxHeartbeats 4000000 in
set_option maxRecDepth 100000 in
theorem j4b (b n c i vb vc:Nat) (cs vs:List Value) (w:World) (hi:i<n) (hroom:n+1<=c) (hbig:n+1<=1099511627776) (hvb:vb≠b)
 (hcl:cs.length=n*4) (hvl:vs.length=4)
 (hcs:∀j v,cs[j]? =some v->w.cell? ⟨b,j,none⟩=some v) (hsp:∀j,j<(n+1)*4->(w.cell? ⟨b,j,none⟩).isSome=true) (hfz:∀j,w.frozen? ⟨b,j,none⟩=false)
 (hvs:∀j v,vs[j]? =some v->w.cell? ⟨vb,j,none⟩=some v) (h1c:∀v∈cs,v.oneCell' =true) (h1v:∀v∈vs,v.oneCell' =true)
 (tA tB:TypeId) (kA kB:Nat) (hsa:w.shape? vb=some (tA,kA)) (hsb:w.shape? b=some (tB,kB)) (hkB:kB≠0) (hfa:w.frozen? ⟨vb,0,none⟩=false) (hfe:w.frozen? ⟨vb,kA,none⟩=false):
 Calls Tryz.prog 348 #[.slice (some ⟨b,0,none⟩) n c, .int .i64 i, .slice (some ⟨vb,0,none⟩) 1 vc] w fun e w' =>
  e= .returned (.slice (some ⟨b,0,none⟩) (n+1) c)/\w' =(w.drew.setCells b ((i+1)*4) (cs.drop (i*4))).setCells b (i*4) vs:=by
 have t3:=Tryz.underlying3;have a3:=Tryz.isAgg3;have z3:=Tryz.sizeOf3;have v3:=Tryz.zeroValue3;have t4:=Tryz.underlying4;have a4:=Tryz.isAgg4;have z4:=Tryz.sizeOf4;have v4:=Tryz.zeroValue4;have t50:=Tryz.underlying24;have a50:=Tryz.isAgg24;have z50:=Tryz.sizeOf24;have v50:=Tryz.zeroValue24;have z170:=Tryz.sizeOf130;have u3:=run_underlying Tryz.underlying3;have u4:=run_underlying Tryz.underlying4;have u50:=run_underlying Tryz.underlying24;have hz2: ¬((i:Int)=(n:Int)):=by omega
 have hsz:(Tryz.prog.info? 130).map (·.size)=some 4:=by kernel_rfl
 have hov:∀o lb cb,(callFunc 385 #[.slice (some ⟨vb,0,none⟩) 1 vc, .slice (some ⟨b,o,none⟩) lb cb]).run Tryz.prog w= .ok (.value (.bool false)) w:=fun o lb cb=>by
  rw[run_callFunc_extern Tryz.func385 (by kernel_rfl) (by kernel_rfl) (by kernel_rfl) (e:=Extern.SlicesOverlaps.overlaps #[24,24] #[4]) (by kernel_rfl),
   Lib.run_overlaps_apart w 24 4 130 t50 4 z170 ⟨vb,0,none⟩ ⟨b,o,none⟩ 1 vc lb cb hvb tA tB kA kB hsa hsb hkB hfa hfe]
  rfl
 have hdl:(cs.drop (i*4)).length=(n - i)*4:=by rw[F0,hcl];omega
 have mixed:Tryz.prog.follows .mixedOrders=true:=by kernel_rfl
 have hw1:IntKind.i64.wrap ((i:Int)+1)=(i:Int)+1:=by rw[IntKind.wrap_i64];omega
 have hwn:IntKind.i64.wrap ((n:Int)+1)=(n:Int)+1:=by rw[IntKind.wrap_i64];omega
 have hb1:(0:Int)<=(i:Int)+1:=by omega
 have hin:i<=n:=by omega
 have htn:((i:Int)+1).toNat=i+1:=by omega
 have hb2: ¬(c=i+1):=by omega
 have hb3:(i:Int)<=(n:Int)+1:=by omega
 have hb4: ¬(c=i):=by omega
 have hcp1:∀ty dc sc,(Builtin.copy_ #[24,24] ty #[.slice (some ⟨b,(i+1)*4,none⟩) (n - i) dc, .slice (some ⟨b,i*4,none⟩) (n+1 - i) sc]).run Tryz.prog w.drew= .ok (goInt ((n - i:Nat):Int)) (w.drew.setCells b ((i+1)*4) (cs.drop (i*4))):=fun ty dc sc=>
  y3a w.drew _ _ ty 130 b ((i+1)*4) (n - i) dc ⟨b,i*4,none⟩ (n+1 - i) sc (cs.drop (i*4)) 4 (n - i) t50 hsz (by simp only[Nat.min_def];split<;>omega) hdl
   (fun j v hj=>by rw[Addr.add_lit];exact hcs (i*4+j) v (by rwa [Dg] at hj))
   (fun j hj=>hsp _ (by omega)) (fun j hj=>hfz _) (fun v hv=>h1c v (List.mem_of_mem_drop hv))
 obtain⟨W1,hW1⟩:∃W1,W1=w.drew.setCells b ((i+1)*4) (cs.drop (i*4)):=⟨_,rfl⟩;have hsp1:∀k,k<(n+1)*4->(W1.cell? ⟨b,k,none⟩).isSome=true:=fun k hk=>by
  rw[hW1];exact isSome_setCells b (cs.drop (i*4)) ((i+1)*4) w.drew (fun j hj=>hsp _ (by omega)) k (hsp k hk)
 have hcp2:∀(W:World),(∀x,W.cell? x=W1.cell? x)->(∀x,W.frozen? x=W1.frozen? x)-> ∀ty dc,(Builtin.copy_ #[24,24] ty #[.slice (some ⟨b,i*4,none⟩) (n+1 - i) dc, .slice (some ⟨vb,0,none⟩) 1 vc]).run Tryz.prog W= .ok (goInt 1) (W.setCells b (i*4) vs):=fun W hWc hWf ty dc=>
  y3a W _ _ ty 130 b (i*4) (n+1 - i) dc ⟨vb,0,none⟩ 1 vc vs 4 1 t50 hsz (by simp only[Nat.min_def];split<;>omega) (by rw[hvl])
   (fun j v hj=>by
    rw[Addr.add_lit,Co,hWc,hW1,World.cell?_setCells_out b _ _ _ _ (fun h _=>absurd h hvb)];exact hvs j v hj)
   (fun j hj=>by rw[hWc];exact hsp1 _ (by omega)) (fun j hj=>by rw[hWf,hW1,World.frozen?_setCells];exact hfz _) h1v
 rw[←hW1] at hcp1
 go_enter Tryz.func348,Tryz.ntmps348
 go_wp2_with (simp only[hov])
 go_region_law_o (refine step_copy_runI rfl _ _ 24 24 rfl _ _ (by simp[Act.eval,Act.put]) (by simp[Act.eval,Act.put]) (hcp1 _ _ _) ?_)
 go_wp2_with (at_builtin;refine wpList_copy_runI _ rfl _ _ 24 24 rfl _ _ rfl rfl (hcp2 _ (fun _=>rfl) (fun _=>rfl) _ _) ?_)
 go_ret
 first | exact⟨rfl,rfl⟩ | exact⟨rfl,by rw[hW1]⟩
set_option maxHeartbeats 4000000 in
set_option maxRecDepth 100000 in
theorem o33 (b n c vb vc:Nat) (vs:List Value) (w:World) (hroom:n+1<=c) (hbig:n+1<=1099511627776)
 (hvl:vs.length=4) (hsp:∀j,j<(n+1)*4->(w.cell? ⟨b,j,none⟩).isSome=true) (hfz:∀j,w.frozen? ⟨b,j,none⟩=false)
 (hvs:∀j v,vs[j]? =some v->w.cell? ⟨vb,j,none⟩=some v) (h1v:∀v∈vs,v.oneCell' =true):
 Calls Tryz.prog 348 #[.slice (some ⟨b,0,none⟩) n c, .int .i64 n, .slice (some ⟨vb,0,none⟩) 1 vc] w fun e w' =>
  e= .returned (.slice (some ⟨b,0,none⟩) (n+1) c)/\w' =w.setCells b (n*4) vs:=by
 have t3:=Tryz.underlying3;have a3:=Tryz.isAgg3;have z3:=Tryz.sizeOf3;have v3:=Tryz.zeroValue3;have t4:=Tryz.underlying4;have a4:=Tryz.isAgg4;have z4:=Tryz.sizeOf4;have v4:=Tryz.zeroValue4;have t50:=Tryz.underlying24;have a50:=Tryz.isAgg24;have z50:=Tryz.sizeOf24;have v50:=Tryz.zeroValue24;have z170:=Tryz.sizeOf130;have u3:=run_underlying Tryz.underlying3;have u4:=run_underlying Tryz.underlying4;have u50:=run_underlying Tryz.underlying24;have mixed:Tryz.prog.follows .mixedOrders=true:=by kernel_rfl
 have i170:(Tryz.prog.info? 130).map (fun i=>i.size)=some 4:=by kernel_rfl
 obtain⟨i0,hi0,hzs⟩:=Ea.1 i170;have hsrc:Src Tryz.prog i0.size 24 (.slice (some ⟨vb,0,none⟩) 1 vc) 1 vs w:=by
  rw[hzs];exact Src.ofSlice w t50 ⟨vb,0,none⟩ 1 vc vs (by omega) (fun j u hj=>by rw[Addr.add_lit,Co];exact hvs j u hj) h1v
 have hE:w.setCells b (0+n*i0.size) vs=w.setCells b (n*4) vs:=by rw[hzs,Co]
 go_enter Tryz.func348,Tryz.ntmps348
 go_wp2_with (at_builtin;refine wpList_append_room_src _ rfl _ _ 24 24 rfl 130 i0 t50 hi0 b 0 n c rfl _ rfl 1 vs hsrc hroom (by rw[hvl,hzs];intro j hj;exact hsp _ (by omega)) (by intro j hj;exact hfz _) ?_;rw[hE])
 go_ret
 exact⟨rfl,rfl⟩
set_option maxHeartbeats 4000000 in
set_option maxRecDepth 100000 in
theorem o32 (base:Option Addr) (n c vb vc:Nat) (cs vs:List Value) (w:World) (hnc:n<=c) (hroom:c<n+1) (hbig:n+1<=1099511627776)
 (hcl:cs.length=n*4) (hvl:vs.length=4) (hnil:base=none->n=0)
 (hcs:∀a,base=some a-> ∀j v,cs[j]? =some v->w.cell? (a.add j)=some v)
 (hvs:∀j v,vs[j]? =some v->w.cell? ⟨vb,j,none⟩=some v) (h1v:∀v∈vs,v.oneCell' =true):
 Calls Tryz.prog 348 #[.slice base n c, .int .i64 n, .slice (some ⟨vb,0,none⟩) 1 vc] w fun e w' =>
  ∃(g:Nat) (rest:Array Value),n+1<=g/\rest.size=(g - (n+1))*4/\e= .returned (.slice (some ⟨w.heap.size,0,none⟩) (n+1) g)/\
  w' =w.drew.alloc (.cells ((cs++vs).toArray++rest) 130):=by
 have t3:=Tryz.underlying3;have a3:=Tryz.isAgg3;have z3:=Tryz.sizeOf3;have v3:=Tryz.zeroValue3;have t4:=Tryz.underlying4;have a4:=Tryz.isAgg4;have z4:=Tryz.sizeOf4;have v4:=Tryz.zeroValue4;have t50:=Tryz.underlying24;have a50:=Tryz.isAgg24;have z50:=Tryz.sizeOf24;have v50:=Tryz.zeroValue24;have z170:=Tryz.sizeOf130;have u3:=run_underlying Tryz.underlying3;have u4:=run_underlying Tryz.underlying4;have u50:=run_underlying Tryz.underlying24;have mixed:Tryz.prog.follows .mixedOrders=true:=by kernel_rfl
 have i170:(Tryz.prog.info? 130).map (fun i=>(i.zero.map (fun z=>z.cells.size),i.size,decide (i.bytes<=128)))=some (some 4,4,true):=by kernel_rfl
 obtain⟨i0,hi0,hzz⟩:=Ea.1 i170;simp only[Ak] at hzz;obtain⟨hz0,hzs,hzb⟩:=hzz;obtain⟨z,hz,hzc⟩:=Ea.1 hz0;have hzb:=Ej hzb;have hsrc:Src Tryz.prog i0.size 24 (.slice (some ⟨vb,0,none⟩) 1 vc) 1 vs w:=by
  rw[hzs];exact Src.ofSlice w t50 ⟨vb,0,none⟩ 1 vc vs (by omega) (fun j u hj=>by rw[Addr.add_lit,Co];exact hvs j u hj) h1v
 have hold:(Builtin.firstCells i0.size n (.slice base n c)).run Tryz.prog w.drew= .ok cs.toArray w.drew:=by
  rw[hzs];cases base with
  | none=>
   have h0:=hnil rfl;subst h0;rw[Dk.1 hcl];exact run_firstCells_none w.drew 4 0 0 c
  | some a=>exact run_firstCells_some w.drew 4 n a n c cs (by omega) (fun j v hj=>hcs a rfl j v hj)
 have hrun:∀ty,(Builtin.append_ #[24,24] ty #[.slice base n c, .slice (some ⟨vb,0,none⟩) 1 vc]).run Tryz.prog w=_:=fun ty=>
  run_append_grow_src w 24 24 ty 130 i0 z t50 hi0 hz base n c cs hold _ 1 vs hsrc hroom (by omega) (growslice_fits hroom (by
   have:(n+1)*i0.bytes<=(n+1)*128:=Hb _ hzb;omega))
 obtain⟨rest,hrest⟩:∃rest,rest=Builtin.zeroCells z.cells (grownCap w (n+1) c 130 - (n+1)):=⟨_,rfl⟩;rw[←hrest] at hrun;have hrs:rest.size=(grownCap w (n+1) c 130 - (n+1))*4:=by rw[hrest];simp[Builtin.zeroCells,hzc]
 have hge:=grownCap_ge w (n+1) c 130;clear hrest
 go_enter Tryz.func348,Tryz.ntmps348
 cases base with
 | none=>
  have h0:=hnil rfl;subst h0
  go_wp2_with (at_builtin;refine Lib.wpList_append_run _ rfl _ _ _ _ rfl _ _ rfl rfl _ _ (hrun _) ?_)
  go_ret
  exact⟨_,by simpa using hge,rest,by simpa using hrs,rfl,rfl⟩
 | some a=>
  obtain⟨ab,ao,asp⟩:=a
  go_wp2_with (at_builtin;refine Lib.wpList_append_run _ rfl _ _ _ _ rfl _ _ rfl rfl _ _ (hrun _) ?_)
  all_goals (go_ret;first | exact⟨_,hge,rest,hrs,rfl,rfl⟩ | exact⟨_,rest,hge,hrs,rfl,rfl⟩)
set_option maxHeartbeats 4000000 in
set_option maxRecDepth 100000 in
theorem j6k (b n c i vb vc:Nat) (cs vs:List Value) (w:World) (hi:i<n) (hnc:n<=c) (hroom:c<n+1) (hbig:n+1<=1099511627776)
 (hcl:cs.length=n*4) (hvl:vs.length=4)
 (hcs:∀j v,cs[j]? =some v->w.cell? ⟨b,j,none⟩=some v)
 (hvs:∀j v,vs[j]? =some v->w.cell? ⟨vb,j,none⟩=some v) (h1c:∀v∈cs,v.oneCell' =true) (h1v:∀v∈vs,v.oneCell' =true):
 Calls Tryz.prog 348 #[.slice (some ⟨b,0,none⟩) n c, .int .i64 i, .slice (some ⟨vb,0,none⟩) 1 vc] w fun e w' =>
  ∃(g:Nat) (row:Array Value),n+1<=g/\row.size=g*4/\(∀j,j<i*4->row[j]? =cs[j]?)/\e= .returned (.slice (some ⟨w.heap.size,0,none⟩) (n+1) g)/\
  w' =((w.alloc (.cells row 130)).drew.setCells w.heap.size (i*4) vs).drew.setCells w.heap.size ((i+1)*4) (cs.drop (i*4)):=by
 have t3:=Tryz.underlying3;have a3:=Tryz.isAgg3;have z3:=Tryz.sizeOf3;have v3:=Tryz.zeroValue3;have t4:=Tryz.underlying4;have a4:=Tryz.isAgg4;have z4:=Tryz.sizeOf4;have v4:=Tryz.zeroValue4;have t50:=Tryz.underlying24;have a50:=Tryz.isAgg24;have z50:=Tryz.sizeOf24;have v50:=Tryz.zeroValue24;have z170:=Tryz.sizeOf130;have u3:=run_underlying Tryz.underlying3;have u4:=run_underlying Tryz.underlying4;have u50:=run_underlying Tryz.underlying24;have mixed:Tryz.prog.follows .mixedOrders=true:=by kernel_rfl
 have i170:(Tryz.prog.info? 130).map (fun i=>(i.zero.map (fun z=>z.cells.size),i.size,decide (i.bytes<=128)))=some (some 4,4,true):=by kernel_rfl
 have hsz:(Tryz.prog.info? 130).map (·.size)=some 4:=by kernel_rfl
 obtain⟨i0,hi0,hzz⟩:=Ea.1 i170;simp only[Ak] at hzz;obtain⟨hz0,hzs,hzb⟩:=hzz;obtain⟨z,hz,hzc⟩:=Ea.1 hz0;have hzb:=Ej hzb;have hbB:(n+1)*i0.bytes<=(n+1)*128:=Hb _ hzb;have hbB2:(n+1 - i)*i0.bytes<=(n+1 - i)*128:=Hb _ hzb;have hz2: ¬((i:Int)=(n:Int)):=by omega
 have hz3:(c:Int)<(n:Int)+1:=by omega
 have hbw:b<w.heap.size:=block_lt_of_cell (hcs 0 _ (A4 (by omega)));have hvw:vb<w.heap.size:=block_lt_of_cell (hvs 0 _ (A4 (by omega)));have hkk:(n:Int)+1 - (i:Int)=((n+1 - i:Nat):Int):=by omega
 have hik:i+(n+1 - i)=n+1:=by omega
 have hold:(Builtin.firstCells i0.size i (.slice (some ⟨b,0,none⟩) i c)).run Tryz.prog w.drew= .ok (cs.take (i*4)).toArray w.drew:=by
  rw[hzs];exact run_firstCells_some w.drew 4 i ⟨b,0,none⟩ i c (cs.take (i*4)) (by rw[Ec];omega) (fun j v hj=>by
   rw[Addr.add_lit,Co];rw[Ca] at hj;split at hj
   .exact hcs j v hj
   .cases hj)
 have hrz:∀ty,(Builtin.append_ #[24,3] ty #[.slice (some ⟨b,0,none⟩) i c, .int .i64 ((n:Int)+1 - (i:Int))]).run Tryz.prog w=
  .ok (.slice (some ⟨w.heap.size,0,none⟩) (n+1) (grownCap w (n+1) c 130)) (w.drew.alloc (.cells ((cs.take (i*4)).toArray++Builtin.zeroCells z.cells (n+1 - i)++Builtin.zeroCells z.cells (grownCap w (n+1) c 130 - (n+1))) 130)):=fun ty=>by
  have h:=Lib.run_append_grow_zeros w 24 3 ty 130 i0 z .i64 .i64 t50 t3 hi0 hz (some ⟨b,0,none⟩) i c (cs.take (i*4)) hold (n+1 - i) (by omega) (by omega) (by omega) (by omega) (by omega) (by rw[hik];exact growslice_fits hroom (by omega));rw[hik] at h;rw[hkk];exact h
 obtain⟨G,hG⟩:∃G,G=grownCap w (n+1) c 130:=⟨_,rfl⟩;have hGn:n+1<=G:=by rw[hG];exact grownCap_ge w _ _ _
 have hG63:G<=9223372036854775807:=by
  have:=grownCap_le_maxLen w (n+1) c 130 (by unfold maxLen;omega);rw[←hG] at this;unfold maxLen at this;omega
 obtain⟨ROW,hROW⟩:∃ROW:Array Value,ROW=(cs.take (i*4)).toArray++Builtin.zeroCells z.cells (n+1 - i)++Builtin.zeroCells z.cells (G - (n+1)):=⟨_,rfl⟩;rw[←hG] at hrz;rw[←hROW] at hrz;have hRl:ROW.size=G*4:=by
  rw[hROW];simp[Builtin.zeroCells,hzc];omega
 have hRt:∀j,j<i*4->ROW[j]? =cs[j]? :=fun j hj=>by
  rw[hROW,He,C6 (by simp;omega)];simp[Ca,hj]
 have hend:∀W',W' =((w.alloc (.cells ROW 130)).drew.setCells w.heap.size (i*4) vs).drew.setCells w.heap.size ((i+1)*4) (cs.drop (i*4))->
  ∃(g:Nat) (row:Array Value),n+1<=g/\row.size=g*4/\(∀j,j<i*4->row[j]? =cs[j]?)/\Ending.returned (.slice (some ⟨w.heap.size,0,none⟩) (n+1) G)= .returned (.slice (some ⟨w.heap.size,0,none⟩) (n+1) g)/\
  W' =((w.alloc (.cells row 130)).drew.setCells w.heap.size (i*4) vs).drew.setCells w.heap.size ((i+1)*4) (cs.drop (i*4)):=fun W' e=>
  ⟨G,ROW,hGn,hRl,hRt,rfl,e⟩
 obtain⟨W1,hW1⟩:∃W1,W1=w.drew.alloc (.cells ROW 130):=⟨_,rfl⟩;rw[←hW1] at hrz;have hN:∀j,j<(n+1)*4->(W1.cell? ⟨w.heap.size,j,none⟩).isSome=true:=fun j hj=>by
  rw[hW1,World.cell?_alloc_at (w:=w.drew) ROW _ w.heap.size j rfl,Do (by omega)];rfl
 have hNf:∀j,W1.frozen? ⟨w.heap.size,j,none⟩=false:=fun j=>by rw[hW1];exact World.frozen?_alloc_at (w:=w.drew) ROW _ w.heap.size j rfl
 have hOb:∀j v,w.cell? ⟨b,j,none⟩=some v->W1.cell? ⟨b,j,none⟩=some v:=fun j v h=>by rw[hW1,World.cell?_alloc_past (w:=w.drew) _ b j hbw];exact h
 have hOv:∀j v,w.cell? ⟨vb,j,none⟩=some v->W1.cell? ⟨vb,j,none⟩=some v:=fun j v h=>by rw[hW1,World.cell?_alloc_past (w:=w.drew) _ vb j hvw];exact h
 have hcpA:∀(W:World),(∀x,W.cell? x=W1.cell? x)->(∀x,W.frozen? x=W1.frozen? x)-> ∀ty dc,(Builtin.copy_ #[24,24] ty #[.slice (some ⟨w.heap.size,i*4,none⟩) (n+1 - i) dc, .slice (some ⟨vb,0,none⟩) 1 vc]).run Tryz.prog W= .ok (goInt 1) (W.setCells w.heap.size (i*4) vs):=fun W hWc hWf ty dc=>
  y3a W _ _ ty 130 w.heap.size (i*4) (n+1 - i) dc ⟨vb,0,none⟩ 1 vc vs 4 1 t50 hsz (by simp only[Nat.min_def];split<;>omega) (by rw[hvl])
   (fun j v hj=>by rw[Addr.add_lit,Co,hWc];exact hOv _ v (hvs j v hj))
   (fun j hj=>by rw[hWc];exact hN _ (by omega)) (fun j hj=>by rw[hWf];exact hNf _) h1v
 have hGi: ¬(G=i):=by omega
 have hGim: ¬(G=i+1):=by omega
 have hci: ¬(c=i):=by omega
 have hbN:b≠w.heap.size:=by omega
 have hdl:(cs.drop (i*4)).length=(n - i)*4:=by rw[F0,hcl];omega
 have hcpB:∀(W:World),(∀x,W.cell? x=(W1.setCells w.heap.size (i*4) vs).cell? x)->(∀x,W.frozen? x=(W1.setCells w.heap.size (i*4) vs).frozen? x)-> ∀ty dc sc,(Builtin.copy_ #[24,24] ty #[.slice (some ⟨w.heap.size,(i+1)*4,none⟩) (n - i) dc, .slice (some ⟨b,i*4,none⟩) (n - i) sc]).run Tryz.prog W= .ok (goInt ((n - i:Nat):Int)) (W.setCells w.heap.size ((i+1)*4) (cs.drop (i*4))):=fun W hWc hWf ty dc sc=>
  y3a W _ _ ty 130 w.heap.size ((i+1)*4) (n - i) dc ⟨b,i*4,none⟩ (n - i) sc (cs.drop (i*4)) 4 (n - i) t50 hsz (by simp only[Nat.min_def];split<;>omega) hdl
   (fun j v hj=>by
    rw[Addr.add_lit,hWc,World.cell?_setCells_out _ _ _ _ _ (fun h _=>absurd h hbN)];exact hOb _ v (hcs (i*4+j) v (by rwa [Dg] at hj)))
   (fun j hj=>by rw[hWc];exact isSome_setCells w.heap.size vs (i*4) W1 (fun t ht=>hN _ (by omega)) _ (hN _ (by omega)))
   (fun j hj=>by rw[hWf,World.frozen?_setCells];exact hNf _) (fun v hv=>h1c v (List.mem_of_mem_drop hv))
 subst hW1;have hE1:∀x,((w.alloc (.cells ROW 130)).drew).cell? x=(w.drew.alloc (.cells ROW 130)).cell? x:=fun x=>rfl
 have hE2:∀x,((w.alloc (.cells ROW 130)).drew).frozen? x=(w.drew.alloc (.cells ROW 130)).frozen? x:=fun x=>rfl
 have hF1:∀x,(((w.alloc (.cells ROW 130)).drew.setCells w.heap.size (i*4) vs).drew).cell? x=((w.drew.alloc (.cells ROW 130)).setCells w.heap.size (i*4) vs).cell? x:=fun x=>rfl
 have hF2:∀x,(((w.alloc (.cells ROW 130)).drew.setCells w.heap.size (i*4) vs).drew).frozen? x=((w.drew.alloc (.cells ROW 130)).setCells w.heap.size (i*4) vs).frozen? x:=fun x=>rfl
 have hw1:IntKind.i64.wrap ((i:Int)+1)=(i:Int)+1:=by rw[IntKind.wrap_i64];omega
 have hwn:IntKind.i64.wrap ((n:Int)+1)=(n:Int)+1:=by rw[IntKind.wrap_i64];omega
 have hws:IntKind.i64.wrap ((n:Int)+1 - (i:Int))=(n:Int)+1 - (i:Int):=by rw[IntKind.wrap_i64];omega
 have hb1:(0:Int)<=(i:Int)+1:=by omega
 have hin:i<=n:=by omega
 have htn:((i:Int)+1).toNat=i+1:=by omega
 have hb3:(i:Int)<=(n:Int):=by omega
 clear hkk hik hold hROW hG hRl hRt
 go_enter Tryz.func348,Tryz.ntmps348
 go_wp2_with (first
  | (at_builtin;refine Lib.wpList_append_run _ rfl _ _ _ _ rfl _ _ rfl rfl _ _ (hrz _) ?_) | (at_builtin;refine wpList_copy_runI _ rfl _ _ 24 24 rfl _ _ rfl rfl (hcpA _ hE1 hE2 _ _) ?_) | (at_builtin;refine wpList_copy_runI _ rfl _ _ 24 24 rfl _ _ rfl rfl (hcpB _ (fun _=>rfl) (fun _=>rfl) _ _ _) ?_))
 go_region_law_o (refine step_copy_runI rfl _ _ 24 24 rfl (.slice (some ⟨w.heap.size,(i+1)*4,none⟩) (n - i) (G - (i+1))) (.slice (some ⟨b,i*4,none⟩) (n - i) (c - i)) (by simp[Act.eval,Act.put]) (by simp[Act.eval,Act.put]) (hcpB _ hF1 hF2 3 (G - (i+1)) (c - i)) ?_)
 go_wp2
 go_ret
 exact hend _ rfl
theorem d36:InsRoads Tryz.prog 348 4 130:=⟨j4b,o33,o32,j6k⟩
end
end Go.Proofs.YtkphhjdbdnoekaaGreatDoor.Ab
