import Derived.Test.YtlklleaocbnbcaaZ11
import Derived.Deep.MidRow
namespace Go.Proofs.Ytlklleaocbnbcaa
set_option linter.unusedVariables false
open Go.RowKit
theorem infoSt:(Try.prog.info? 81).map (λ i=>(i.zero,i.size,i.bytes))=some (some (.agg #[.int .i64 0,.int .i64 0,.int .i64 0,.int .i64 0,.slice none 0 0,.int .i64 0,.int .i64 0,.int .i64 0,.int .i64 0,.int .i64 0,.bool false,.slice none 0 0,.slice none 0 0,.slice none 0 0,.slice none 0 0,.int .i64 0]),16,208):=by kernel_rfl
theorem TSts:SlTy Try.prog 70 81 16 208 (.agg #[.int .i64 0,.int .i64 0,.int .i64 0,.int .i64 0,.slice none 0 0,.int .i64 0,.int .i64 0,.int .i64 0,.int .i64 0,.int .i64 0,.bool false,.slice none 0 0,.slice none 0 0,.slice none 0 0,.slice none 0 0,.int .i64 0]):=SlTy.of Try.underlying70 infoSt rfl (by decide)
theorem ROA.own {w:World} {base e size n:Nat} {v:Value} {xs:List Value} (h:w.ownsRow base e size v n xs):ROA (From base) w v size n xs:=by
 refine ⟨h.1,?_⟩
 rcases h.2 with ⟨rfl,rfl⟩ | ⟨g,cap,cur,rfl,hb,hg,h1,h2,h3,h4⟩
 ·refine ⟨none,0,rfl,Nat.le_refl _,λ j u hj => ?_⟩
  have:xs = []:=List.eq_nil_of_length_eq_zero (by simpa using h.1)
  subst this;simp at hj
 ·refine ⟨_,_,rfl,h1,λ j u hj=>⟨g,0,rfl,hb,?_⟩⟩
  have:=h.cells (g:=g) rfl j u hj
  have hadd:(⟨g,0,none⟩:Addr).add j=⟨g,0+j,none⟩:=by unfold Addr.add;split <;> simp_all
  rwa [hadd] at this
theorem sizeSt:(Try.prog.info? 81).map (·.size)=some 16:=by kernel_rfl
theorem Blk.range {w:World} {b t:Nat} {l:List Value} (h:Blk w b t l):w.rangeAt b 0 l:=λ j v hv=>by rw [Nat.zero_add];exact h.cell hv
theorem sr_mk {A:Nat→Prop} {w:World} {h:SH} {b e:SL} {idxv bv ev:Value} {ic vc bc ec:List Value} (h2:TR A w (.cons h.vh h.va .nil) vc) (h3:ROA A w idxv 8 h.idx.len ic) (h4:TR A w h.idx ic) (h5:ROA A w bv 16 b.len bc) (h6:SR A w b bc) (h7:ROA A w ev 16 e.len ec) (h8:SR A w e ec):SR A w (.cons h b e .nil) (scells 0 h idxv vc bv ev) :=
 ⟨idxv,ic,vc,bv,bc,ev,ec, [],(List.append_nil _).symm,h2,h3,h4,h5,h6,h7,h8,rfl⟩
theorem sr_nil {A:Nat→Prop} {w:World}:SR A w .nil []:=rfl
theorem tr_nil {A:Nat→Prop} {w:World}:TR A w .nil []:=rfl
def StC (bm n:Nat) (sv:Value) (l:List Sg) (kind low high deep:Nat):Prop :=
 ∀ W,Mk bm W→ROA (λ b=>b≠bm) W sv 4 l.length (sigCells l)→Calls Try.prog 13 #[.pointer (some ⟨bm,0,none⟩),sv,.int .i64 kind,.int .i64 low,.int .i64 high,.int .i64 deep] W (StR bm n W)
set_option maxRecDepth 100000 in
set_option maxHeartbeats 16000000 in
theorem mstmts_step {bm n:Nat} {w:World} {p:Option Addr} {c:Nat} {l:List Sg} (hS:Sgs l) (hn:l.length≤n) (hn8:n≤8) (kind low high deep:Nat) (hkind:1≤kind∧kind≤3) (hlh:low<high) (hhl:high≤l.length) (hdeep:1≤deep∧deep≤1000)
  (hih:deep=1∨StC bm n (.slice p l.length c) l kind low high (deep-1)) (hk:Mk bm w) (hs:ROA (λ b=>b≠bm) w (.slice p l.length c) 4 l.length (sigCells l)) :
  Calls Try.prog 13 #[.pointer (some ⟨bm,0,none⟩),.slice p l.length c,.int .i64 kind,.int .i64 low,.int .i64 high,.int .i64 deep] w (StR bm n w):=by
 have HSg:Hid (∀ W,Upd (One bm) (One bm) w W→ROA (λ b=>b≠bm) W (.slice p l.length c) 4 l.length (sigCells l)):=Lib.hid λ W hu=>hs.upd hu λ b hb=>hb
 have HE:Hid (∀ (W:World) (m:Nat),1≤m→m≤8→Mk bm W→ROA (λ b=>b≠bm) W (.slice p l.length c) 4 l.length (sigCells l)→Calls Try.prog 12 #[.pointer (some ⟨bm,0,none⟩),.slice p l.length c,.int .i64 m,.int .i64 3] W (MakeR bm n W)):=Lib.hid (mexpr_any hS hn hn8 3 (by omega) (by omega))
 have HE2:Hid (∀ (W:World),Mk bm W→ROA (λ b=>b≠bm) W (.slice p l.length c) 4 l.length (sigCells l)→Calls Try.prog 12 #[.pointer (some ⟨bm,0,none⟩),.slice p l.length c,.int .i64 1,.int .i64 2] W (MakeR bm n W)):=Lib.hid λ W=>mexpr_any hS hn hn8 2 (by omega) (by omega) W 1 (by omega) (by omega)
 have HE3:Hid (∀ (W:World),Mk bm W→ROA (λ b=>b≠bm) W (.slice p l.length c) 4 l.length (sigCells l)→Calls Try.prog 12 #[.pointer (some ⟨bm,0,none⟩),.slice p l.length c,.int .i64 1,.int .i64 3] W (MakeR bm n W)):=Lib.hid λ W=>mexpr_any hS hn hn8 3 (by omega) (by omega) W 1 (by omega) (by omega)
 have HTg:Hid (∀ (W:World) (s:Nat) (x:Sg) (dyn:Bool),l[s]? = some x→Mk bm W→ROA (λ b=>b≠bm) W (.slice p l.length c) 4 l.length (sigCells l)→Calls Try.prog 16 #[.pointer (some ⟨bm,0,none⟩),.slice p l.length c,.int .i64 s,.bool dyn] W (TgtR bm n s x.words W)):=Lib.hid λ W s x dyn hx hm hr=>target_any hS hn hn8 s hx dyn hm hr
 have HWi:Hid (∀ (W:World) (s:Nat) (x:Sg) (lo wd m:Nat) (pi:Option Addr) (ci:Nat),l[s]? = some x→(m=0→1≤wd∧wd≤8∧x.words=0)→RO W (.slice p l.length c) 4 l.length (sigCells l)→Calls Try.prog 17 #[.slice p l.length c,.agg #[.int .i64 s,.int .i64 lo,.int .i64 wd,.slice pi m ci]] W λ e w'=>∃ m:Nat,e = .returned (.int .i64 m)∧1≤m∧m≤8∧Below W.heap.size W w'):=Lib.hid λ W s x lo wd m pi ci hx h0 hr=>twidth_any hS s hx lo wd m pi ci h0 hr
 obtain ⟨d,hd1⟩:∃ d,deep-1=d:=⟨_,rfl⟩
 have hdw:IntKind.i64.wrap ((deep:Int)-1)=(d:Int):=by rw [i64_of (by omega)];omega
 rw [hd1] at hih
 obtain ⟨N,hN⟩:∃ N,l.length=N:=⟨_,rfl⟩
 have H:=Lib.hid (And.intro hS (And.intro hn (And.intro hn8 (And.intro hlh (And.intro hhl (And.intro hkind (And.intro hdeep hN)))))))
 have HIh:Hid (deep=1∨∀ W,Mk bm W→ROA (λ b=>b≠bm) W (.slice p l.length c) 4 l.length (sigCells l)→Calls Try.prog 13 #[.pointer (some ⟨bm,0,none⟩),.slice p l.length c,.int .i64 kind,.int .i64 low,.int .i64 high,.int .i64 d] W (StR bm n W)):=Lib.hid hih
 obtain ⟨hw0,hhw⟩:∃ q,high-low=q:=⟨_,rfl⟩
 have hhw1:IntKind.i64.wrap ((high:Int)-(low:Int))=(hw0:Int):=by rw [i64_of (by have:=hS.le;omega)];omega
 have HHw:=Lib.hid (show 0<hw0∧hw0≤8∧low+hw0=high from ⟨by omega,by have:=hS.le;omega,by omega⟩)
 have HO0:Hid (OutS bm n w w (.slice none 0 0) .nil []):=Lib.hid ⟨World.ownsRow_nil _ _ _ _,rfl,trivial,hk,Upd.refl _ _,hk.lt⟩
 have hbm:=Lib.hid hk.lt
 rw [hN] at HSg HE HE2 HE3 HTg HWi HIh ⊢
 clear hS hn hn8 hkind hlh hhl hdeep hih hk hs hN hd1 hhw
 go_enter Try.func13,Try.ntmps13
 go_wp2_with fail
 refine (next_any HO0.out.maker 3 (by omega) (by omega)).mono ?_;rintro e w1 ⟨r0,hr0,rfl,hk1,hu1⟩
 have HO1:Hid (OutS bm n w w1 (.slice none 0 0) .nil []):=Lib.hid ⟨World.ownsRow_nil _ _ _ _,rfl,trivial,hk1,hu1,hbm.out⟩
 have hr1:IntKind.i64.wrap (1+(r0:Int))=((1+r0:Nat):Int):=by rw [i64_of (by omega)];omega
 have hr3:1+r0≤3:=by omega
 obtain ⟨J,hJ⟩:∃ J,1+r0=J:=⟨_,rfl⟩
 rw [hJ] at hr1 hr3
 clear hk1 hu1 HO0 hr0 hJ
 go_wp2_with fail
 go_loopw [13,14] (λ ov jv wr=>∃ (j:Nat) (t:SL) (oc:List Value),jv = .int .i64 j∧t.len+j≤3∧OutS bm n w wr ov t oc) (λ _ jv _=>(intOf jv).toNat)
 case atStart=>exact ⟨J,.nil, [],rfl,by simp [SL.len];omega,HO1.out⟩
 case round =>
  obtain ⟨j,t,oc,rfl,hlen,hO⟩:=hrel
  obtain ⟨ov,oc',rfl⟩:=ownsRow_form hO.own
  have HO:=Lib.hid hO
  obtain ⟨tn,htn⟩:∃ tn,t.len=tn:=⟨_,rfl⟩
  have HL:=Lib.hid (And.intro hlen htn)
  have hown:=hO.own
  rw [htn] at hown ⊢
  clear hO
  by_cases hj:0<j
  ·have hji:(0:Int)<(j:Int):=by omega
   have hjw:IntKind.i64.wrap ((j:Int)-1)=((j-1:Nat):Int):=by rw [i64_of (by omega)];omega
   obtain ⟨j1,hj1⟩:∃ j1,j-1=j1:=⟨_,rfl⟩
   rw [hj1] at hjw
   have HJ:=Lib.hid (show j=j1+1∧t.len=tn∧tn+j1+1≤3 from ⟨by omega,htn,by omega⟩)
   have HY_wr:=Lib.hid (MY.start (n:=n) HO.out.maker)
   clear hlen htn hj hj1
   have HOw:=Lib.hid hown
   clear hown
   go_wp2_with fail
   refine (next_any HY_wr.out.maker 6 (by omega) (by omega)).mono ?_;rintro e w11 ⟨k,hlk,rfl,hk11,hu11⟩
   have HY_w11:=Lib.hid (HY_wr.out.call hk11 hu11);clear hk11 hu11 HY_wr
   go_upto_region 6 with fail
   go_cut [35] from 24 to 122 (λ v35 wx=>v35 = .bool (decide (k=0) && decide (1<deep))∧wx=w11)
   case first =>
    by_cases hk0:k=0
    ·subst hk0
     by_cases hd1:1<deep
     ·have hdi:(1:Int)<(deep:Int):=by omega
      go_wp2_with fail
      go_meet
      exact ⟨by simp [hd1],rfl⟩
     ·have hdi:¬(1:Int)<(deep:Int):=by omega
      go_wp2_with fail
      go_meet
      exact ⟨by simp [hd1],rfl⟩
    ·have hki:((k:Int) == 0)=false:=by simp;omega
     go_wp2_with fail
     go_meet
     exact ⟨by simp [hk0],rfl⟩
   case rest =>
    obtain ⟨rfl,hwc⟩:=hcut
    have hwc2:=hwc.symm;clear hwc;subst hwc2
    obtain ⟨q,hq⟩:∃ q,(decide (k=0) && decide (1<deep))=q:=⟨_,rfl⟩
    rw [hq]
    cases q with
    | true =>
     have hd1:1<deep:=by simp at hq;exact hq.2
     clear hq
     have HIs:=Lib.hid (HIh.out.resolve_left (by omega))
     clear hd1
     go_wp2_with fail
     refine (HE2.out _ HY_w11.out.maker (HSg.out _ (HO.out.up.trans HY_w11.out.up))).mono ?_;intro e w12 hR;obtain ⟨⟨cak,caw,cas,cal⟩,caa,cao,cag,cavp,cavn,cavc,caap,caan,caac,rfl,htca,hwca,hk12,hu12⟩:=hR.open;clear hR
     have HY_w12:=Lib.hid (HY_w11.out.tree hk12 hu12 htca hwca);clear hk12 hu12 htca hwca HY_w11
     go_upto_region 8 with fail
     have HY_w13:=Lib.hid (HY_w12.out.lay 76 [.int .i64 (cak:Nat),.int .i64 cao,.int .i64 (caw:Nat),.int .i64 (cas:Nat),.int .i64 (cal:Nat),.bool cag,.slice cavp cavn cavc,.slice caap caan caac])
     generalize hW13:w12.alloc (.cells #[.int .i64 (cak:Nat),.int .i64 cao,.int .i64 (caw:Nat),.int .i64 (cas:Nat),.int .i64 (cal:Nat),.bool cag,.slice cavp cavn cavc,.slice caap caan caac] 76)=w13 at *
     clear hW13 HY_w12
     go_wp2_with fail
     refine (HIs.out _ HY_w13.out.maker (HSg.out _ (HO.out.up.trans HY_w13.out.up))).mono ?_;rintro e w14 ⟨sat,sap,sac,sacs,rfl,hrsa,hssa,hwsa,hlsa,hk14,hu14⟩
     have HY_w14:=Lib.hid (HY_w13.out.stmts hk14 hu14 (ROA.own hrsa) (SR.mono hssa λ b hb=>hb.1) hwsa);have Hlsa:=Lib.hid hlsa;clear hk14 hu14 hrsa hssa hwsa hlsa HY_w13
     have c0:=(HY_w14.out.at 0 rfl).cell (i:=0) rfl
     have c1:=(HY_w14.out.at 0 rfl).cell (i:=1) rfl
     have c2:=(HY_w14.out.at 0 rfl).cell (i:=2) rfl
     have c3:=(HY_w14.out.at 0 rfl).cell (i:=3) rfl
     have c4:=(HY_w14.out.at 0 rfl).cell (i:=4) rfl
     have c5:=(HY_w14.out.at 0 rfl).cell (i:=5) rfl
     have c6:=(HY_w14.out.at 0 rfl).cell (i:=6) rfl
     have c7:=(HY_w14.out.at 0 rfl).cell (i:=7) rfl
     go_upto_region 10 with fail
     clear c0 c1 c2 c3 c4 c5 c6 c7
     have HY_w15:=Lib.hid (HY_w14.out.lay 81 [.int .i64 3,.int .i64 0,.int .i64 0,.int .i64 0,.slice none 0 0,.int .i64 (cak:Nat),.int .i64 cao,.int .i64 (caw:Nat),.int .i64 (cas:Nat),.int .i64 (cal:Nat),.bool cag,.slice cavp cavn cavc,.slice caap caan caac,.slice sap sat.len sac,.slice none 0 0,.int .i64 0])
     generalize hW15:w14.alloc (.cells #[.int .i64 3,.int .i64 0,.int .i64 0,.int .i64 0,.slice none 0 0,.int .i64 (cak:Nat),.int .i64 cao,.int .i64 (caw:Nat),.int .i64 (cas:Nat),.int .i64 (cal:Nat),.bool cag,.slice cavp cavn cavc,.slice caap caan caac,.slice sap sat.len sac,.slice none 0 0,.int .i64 0] 81)=w15 at *
     clear hW15 HY_w14
     go_wp2_with fail
     refine (next_any HY_w15.out.maker 3 (by omega) (by omega)).mono ?_;rintro e w16 ⟨re,hlre,rfl,hk16,hu16⟩
     have HY_w16:=Lib.hid (HY_w15.out.call hk16 hu16);clear hk16 hu16 HY_w15
     by_cases hre:0<re
     ·have hri:(0:Int)<(re:Int):=by omega
      clear hre
      go_wp2_with fail
      refine (HIs.out _ HY_w16.out.maker (HSg.out _ (HO.out.up.trans HY_w16.out.up))).mono ?_;rintro e w17 ⟨sbt,sbp,sbc,sbcs,rfl,hrsb,hssb,hwsb,hlsb,hk17,hu17⟩
      have HY_w17:=Lib.hid (HY_w16.out.stmts hk17 hu17 (ROA.own hrsb) (SR.mono hssb λ b hb=>hb.1) hwsb);have Hlsb:=Lib.hid hlsb;clear hk17 hu17 hrsb hssb hwsb hlsb HY_w16
      have d14:=(HY_w17.out.at 0 rfl).cell (i:=14) rfl
      have df14:=(HY_w17.out.at 0 rfl).frz 14
      go_upto_region 12 with fail
      clear d14 df14
      have HY_w18:=Lib.hid (HY_w17.out.set 14 (.slice sbp sbt.len sbc))
      generalize hW18:(w17.setCell ⟨w14.heap.size,14,none⟩ (.slice sbp sbt.len sbc))=w18 at *
      clear hW18 HY_w17
      have HYa:Hid (MY bm n wr (w18.alloc (.cells #[.int .i64 3,.int .i64 0,.int .i64 0,.int .i64 0,.slice none 0 0,.int .i64 (cak:Nat),.int .i64 cao,.int .i64 (caw:Nat),.int .i64 (cas:Nat),.int .i64 (cal:Nat),.bool cag,.slice cavp cavn cavc,.slice caap caan caac,.slice sap sat.len sac,.slice sbp sbt.len sbc,.int .i64 0] 81)) _ _ _ _):=Lib.hid (HY_w18.out.lay 81 [.int .i64 3,.int .i64 0,.int .i64 0,.int .i64 0,.slice none 0 0,.int .i64 (cak:Nat),.int .i64 cao,.int .i64 (caw:Nat),.int .i64 (cas:Nat),.int .i64 (cal:Nat),.bool cag,.slice cavp cavn cavc,.slice caap caan caac,.slice sap sat.len sac,.slice sbp sbt.len sbc,.int .i64 0])
      have hoa:(w18.alloc (.cells #[.int .i64 3,.int .i64 0,.int .i64 0,.int .i64 0,.slice none 0 0,.int .i64 (cak:Nat),.int .i64 cao,.int .i64 (caw:Nat),.int .i64 (cas:Nat),.int .i64 (cal:Nat),.bool cag,.slice cavp cavn cavc,.slice caap caan caac,.slice sap sat.len sac,.slice sbp sbt.len sbc,.int .i64 0] 81)).ownsRow w.heap.size 81 16 (.slice ov tn oc') tn oc:=ownsRow_keep HOw.out λ k hk=>HYa.out.up.block k (own_lt' HOw.out k hk).2 (λ e=>by have h1:=(own_lt' HOw.out k hk).1;have h2:=hbm.out;have h3:k=bm:=e;omega)
      have hbz:w.heap.size≤(w18.alloc (.cells #[.int .i64 3,.int .i64 0,.int .i64 0,.int .i64 0,.slice none 0 0,.int .i64 (cak:Nat),.int .i64 cao,.int .i64 (caw:Nat),.int .i64 (cas:Nat),.int .i64 (cal:Nat),.bool cag,.slice cavp cavn cavc,.slice caap caan caac,.slice sap sat.len sac,.slice sbp sbt.len sbc,.int .i64 0] 81)).heap.size:=Nat.le_trans HO.out.up.size HYa.out.up.size
      have hnw:(w18.alloc (.cells #[.int .i64 3,.int .i64 0,.int .i64 0,.int .i64 0,.slice none 0 0,.int .i64 (cak:Nat),.int .i64 cao,.int .i64 (caw:Nat),.int .i64 (cas:Nat),.int .i64 (cal:Nat),.bool cag,.slice cavp cavn cavc,.slice caap caan caac,.slice sap sat.len sac,.slice sbp sbt.len sbc,.int .i64 0] 81)).heap[w18.heap.size]? = some (.cells #[.int .i64 3,.int .i64 0,.int .i64 0,.int .i64 0,.slice none 0 0,.int .i64 (cak:Nat),.int .i64 cao,.int .i64 (caw:Nat),.int .i64 (cas:Nat),.int .i64 (cal:Nat),.bool cag,.slice cavp cavn cavc,.slice caap caan caac,.slice sap sat.len sac,.slice sbp sbt.len sbc,.int .i64 0] 81 (0,0)):=heap_alloc_new _ _
      have htn3:=HJ.out.2.2
      have hrg:=(HY_w18.out.at 0 rfl).range
      go_wp2_with (first | (refine wpList_load_mid rfl 81 _ rfl (w14.heap.size) 0 rfl [.int .i64 3,.int .i64 0,.int .i64 0,.int .i64 0,.slice none 0 0,.int .i64 (cak:Nat),.int .i64 cao,.int .i64 (caw:Nat),.int .i64 (cas:Nat),.int .i64 (cal:Nat),.bool cag,.slice cavp cavn cavc,.slice caap caan caac,.slice sap sat.len sac,.slice sbp sbt.len sbc,.int .i64 0] _ hrg Try.underlying81 rfl sizeSt ?_) | (at_builtin;go_must (refine wpList_app rfl _ _ 70 rfl TSts w.heap.size (.slice ov tn oc') tn oc rfl hoa w18.heap.size 1 1 [.int .i64 3,.int .i64 0,.int .i64 0,.int .i64 0,.slice none 0 0,.int .i64 (cak:Nat),.int .i64 cao,.int .i64 (caw:Nat),.int .i64 (cas:Nat),.int .i64 (cal:Nat),.bool cag,.slice cavp cavn cavc,.slice caap caan caac,.slice sap sat.len sac,.slice sbp sbt.len sbc,.int .i64 0] rfl #[.int .i64 3,.int .i64 0,.int .i64 0,.int .i64 0,.slice none 0 0,.int .i64 (cak:Nat),.int .i64 cao,.int .i64 (caw:Nat),.int .i64 (cas:Nat),.int .i64 (cal:Nat),.bool cag,.slice cavp cavn cavc,.slice caap caan caac,.slice sap sat.len sac,.slice sbp sbt.len sbc,.int .i64 0] hnw rfl rfl (by simp [Value.oneCell']) Nat.one_pos (by omega) (by omega) hbz ?_);intro g cap w9 happ;have HP:=Lib.hid happ;clear happ))
      go_roundw
      case measure=>simp [intOf];have:=HJ.out.1;omega
      case rel =>
       have happ:=HP.out
       rw [←HJ.out.2.1] at happ
       have hO:=HO.out
       have hfin:=OutS.app (nc := [.int .i64 3,.int .i64 0,.int .i64 0,.int .i64 0,.slice none 0 0,.int .i64 (cak:Nat),.int .i64 cao,.int .i64 (caw:Nat),.int .i64 (cas:Nat),.int .i64 (cal:Nat),.bool cag,.slice cavp cavn cavc,.slice caap caan caac,.slice sap sat.len sac,.slice sbp sbt.len sbc,.int .i64 0]) hO HYa.out (sr_mk (h:=⟨3,0,0,0,0,.nil,⟨cak,caw,cas,cal⟩,caa⟩) (b:=sat) (e:=sbt) (HYa.out.t 0 rfl).1 ROA.nil tr_nil (HYa.out.r 1 rfl) (HYa.out.s 1 rfl).1 (HYa.out.r 0 rfl) (HYa.out.s 0 rfl).1) (⟨⟨by simp,(show 0<n by have:=H.out.1.pos;have:=H.out.2.1;omega),by simp,by simp,by simp,by simp [TL.len],trivial,(HYa.out.t 0 rfl).2⟩,by have:=Hlsa.out;omega,by have:=Hlsb.out;omega,(HYa.out.s 1 rfl).2,(HYa.out.s 0 rfl).2,trivial⟩) happ
       rw [HJ.out.2.1] at hfin
       refine ⟨j1,_,_,by go_num,?_,hfin⟩
       rw [SL.app_len,HJ.out.2.1];have:=HJ.out.2.2;simp [SL.len];omega
     ·have hri:¬(0:Int)<(re:Int):=by omega
      clear hre
      have HYa:Hid (MY bm n wr (w16.alloc (.cells #[.int .i64 3,.int .i64 0,.int .i64 0,.int .i64 0,.slice none 0 0,.int .i64 (cak:Nat),.int .i64 cao,.int .i64 (caw:Nat),.int .i64 (cas:Nat),.int .i64 (cal:Nat),.bool cag,.slice cavp cavn cavc,.slice caap caan caac,.slice sap sat.len sac,.slice none 0 0,.int .i64 0] 81)) _ _ _ _):=Lib.hid (HY_w16.out.lay 81 [.int .i64 3,.int .i64 0,.int .i64 0,.int .i64 0,.slice none 0 0,.int .i64 (cak:Nat),.int .i64 cao,.int .i64 (caw:Nat),.int .i64 (cas:Nat),.int .i64 (cal:Nat),.bool cag,.slice cavp cavn cavc,.slice caap caan caac,.slice sap sat.len sac,.slice none 0 0,.int .i64 0])
      have hoa:(w16.alloc (.cells #[.int .i64 3,.int .i64 0,.int .i64 0,.int .i64 0,.slice none 0 0,.int .i64 (cak:Nat),.int .i64 cao,.int .i64 (caw:Nat),.int .i64 (cas:Nat),.int .i64 (cal:Nat),.bool cag,.slice cavp cavn cavc,.slice caap caan caac,.slice sap sat.len sac,.slice none 0 0,.int .i64 0] 81)).ownsRow w.heap.size 81 16 (.slice ov tn oc') tn oc:=ownsRow_keep HOw.out λ k hk=>HYa.out.up.block k (own_lt' HOw.out k hk).2 (λ e=>by have h1:=(own_lt' HOw.out k hk).1;have h2:=hbm.out;have h3:k=bm:=e;omega)
      have hbz:w.heap.size≤(w16.alloc (.cells #[.int .i64 3,.int .i64 0,.int .i64 0,.int .i64 0,.slice none 0 0,.int .i64 (cak:Nat),.int .i64 cao,.int .i64 (caw:Nat),.int .i64 (cas:Nat),.int .i64 (cal:Nat),.bool cag,.slice cavp cavn cavc,.slice caap caan caac,.slice sap sat.len sac,.slice none 0 0,.int .i64 0] 81)).heap.size:=Nat.le_trans HO.out.up.size HYa.out.up.size
      have hnw:(w16.alloc (.cells #[.int .i64 3,.int .i64 0,.int .i64 0,.int .i64 0,.slice none 0 0,.int .i64 (cak:Nat),.int .i64 cao,.int .i64 (caw:Nat),.int .i64 (cas:Nat),.int .i64 (cal:Nat),.bool cag,.slice cavp cavn cavc,.slice caap caan caac,.slice sap sat.len sac,.slice none 0 0,.int .i64 0] 81)).heap[w16.heap.size]? = some (.cells #[.int .i64 3,.int .i64 0,.int .i64 0,.int .i64 0,.slice none 0 0,.int .i64 (cak:Nat),.int .i64 cao,.int .i64 (caw:Nat),.int .i64 (cas:Nat),.int .i64 (cal:Nat),.bool cag,.slice cavp cavn cavc,.slice caap caan caac,.slice sap sat.len sac,.slice none 0 0,.int .i64 0] 81 (0,0)):=heap_alloc_new _ _
      have htn3:=HJ.out.2.2
      have hrg:=(HY_w16.out.at 0 rfl).range
      go_wp2_with (first | (refine wpList_load_mid rfl 81 _ rfl (w14.heap.size) 0 rfl [.int .i64 3,.int .i64 0,.int .i64 0,.int .i64 0,.slice none 0 0,.int .i64 (cak:Nat),.int .i64 cao,.int .i64 (caw:Nat),.int .i64 (cas:Nat),.int .i64 (cal:Nat),.bool cag,.slice cavp cavn cavc,.slice caap caan caac,.slice sap sat.len sac,.slice none 0 0,.int .i64 0] _ hrg Try.underlying81 rfl sizeSt ?_) | (at_builtin;go_must (refine wpList_app rfl _ _ 70 rfl TSts w.heap.size (.slice ov tn oc') tn oc rfl hoa w16.heap.size 1 1 [.int .i64 3,.int .i64 0,.int .i64 0,.int .i64 0,.slice none 0 0,.int .i64 (cak:Nat),.int .i64 cao,.int .i64 (caw:Nat),.int .i64 (cas:Nat),.int .i64 (cal:Nat),.bool cag,.slice cavp cavn cavc,.slice caap caan caac,.slice sap sat.len sac,.slice none 0 0,.int .i64 0] rfl #[.int .i64 3,.int .i64 0,.int .i64 0,.int .i64 0,.slice none 0 0,.int .i64 (cak:Nat),.int .i64 cao,.int .i64 (caw:Nat),.int .i64 (cas:Nat),.int .i64 (cal:Nat),.bool cag,.slice cavp cavn cavc,.slice caap caan caac,.slice sap sat.len sac,.slice none 0 0,.int .i64 0] hnw rfl rfl (by simp [Value.oneCell']) Nat.one_pos (by omega) (by omega) hbz ?_);intro g cap w9 happ;have HP:=Lib.hid happ;clear happ))
      go_roundw
      case measure=>simp [intOf];have:=HJ.out.1;omega
      case rel =>
       have happ:=HP.out
       rw [←HJ.out.2.1] at happ
       have hO:=HO.out
       have hfin:=OutS.app (nc := [.int .i64 3,.int .i64 0,.int .i64 0,.int .i64 0,.slice none 0 0,.int .i64 (cak:Nat),.int .i64 cao,.int .i64 (caw:Nat),.int .i64 (cas:Nat),.int .i64 (cal:Nat),.bool cag,.slice cavp cavn cavc,.slice caap caan caac,.slice sap sat.len sac,.slice none 0 0,.int .i64 0]) hO HYa.out (sr_mk (h:=⟨3,0,0,0,0,.nil,⟨cak,caw,cas,cal⟩,caa⟩) (b:=sat) (e := .nil) (HYa.out.t 0 rfl).1 ROA.nil tr_nil (HYa.out.r 0 rfl) (HYa.out.s 0 rfl).1 ROA.nil sr_nil) (⟨⟨by simp,(show 0<n by have:=H.out.1.pos;have:=H.out.2.1;omega),by simp,by simp,by simp,by simp [TL.len],trivial,(HYa.out.t 0 rfl).2⟩,by have:=Hlsa.out;omega,by simp [SL.len],(HYa.out.s 0 rfl).2,trivial,trivial⟩) happ
       rw [HJ.out.2.1] at hfin
       refine ⟨j1,_,_,by go_num,?_,hfin⟩
       rw [SL.app_len,HJ.out.2.1];have:=HJ.out.2.2;simp [SL.len];omega
    | false =>
     clear hq
     go_upto_region 13 with fail
     go_cut [71] from 24 to 122 (λ v71 wx=>v71 = .bool (decide (k=1) && decide (kind=3))∧wx=w11)
     case first =>
      by_cases hk0:k=1
      ·subst hk0
       by_cases hk3:kind=3
       ·subst hk3
        go_wp2_with fail
        go_meet
        exact ⟨by simp,rfl⟩
       ·have hki3:((kind:Int) == 3)=false:=by simp;omega
        go_wp2_with fail
        go_meet
        exact ⟨by simp [hk3],rfl⟩
      ·have hki:((k:Int) == 1)=false:=by simp;omega
       go_wp2_with fail
       go_meet
       exact ⟨by simp [hk0],rfl⟩
     case rest =>
      obtain ⟨rfl,hwc⟩:=hcut
      have hwc2:=hwc.symm;clear hwc;subst hwc2
      obtain ⟨q,hq⟩:∃ q,(decide (k=1) && decide (kind=3))=q:=⟨_,rfl⟩
      rw [hq]
      cases q with
      | true =>
       clear hq
       go_wp2_with fail
       refine (HE3.out _ HY_w11.out.maker (HSg.out _ (HO.out.up.trans HY_w11.out.up))).mono ?_;intro e w19 hR;obtain ⟨⟨cak,caw,cas,cal⟩,caa,cao,cag,cavp,cavn,cavc,caap,caan,caac,rfl,htca,hwca,hk19,hu19⟩:=hR.open;clear hR
       have HY_w19:=Lib.hid (HY_w11.out.tree hk19 hu19 htca hwca);clear hk19 hu19 htca hwca HY_w11
       go_wp2_with fail
       refine (next_any HY_w19.out.maker 2 (by omega) (by omega)).mono ?_;rintro e w20 ⟨ra,hlra,rfl,hk20,hu20⟩
       have HY_w20:=Lib.hid (HY_w19.out.call hk20 hu20);clear hk20 hu20 HY_w19
       have HYa:Hid (MY bm n wr (w20.alloc (.cells #[.int .i64 4,.int .i64 0,.int .i64 0,.int .i64 0,.slice none 0 0,.int .i64 (cak:Nat),.int .i64 cao,.int .i64 (caw:Nat),.int .i64 (cas:Nat),.int .i64 (cal:Nat),.bool cag,.slice cavp cavn cavc,.slice caap caan caac,.slice none 0 0,.slice none 0 0,.int .i64 (ra:Nat)] 81)) _ _ _ _):=Lib.hid (HY_w20.out.lay 81 [.int .i64 4,.int .i64 0,.int .i64 0,.int .i64 0,.slice none 0 0,.int .i64 (cak:Nat),.int .i64 cao,.int .i64 (caw:Nat),.int .i64 (cas:Nat),.int .i64 (cal:Nat),.bool cag,.slice cavp cavn cavc,.slice caap caan caac,.slice none 0 0,.slice none 0 0,.int .i64 (ra:Nat)])
       have hoa:(w20.alloc (.cells #[.int .i64 4,.int .i64 0,.int .i64 0,.int .i64 0,.slice none 0 0,.int .i64 (cak:Nat),.int .i64 cao,.int .i64 (caw:Nat),.int .i64 (cas:Nat),.int .i64 (cal:Nat),.bool cag,.slice cavp cavn cavc,.slice caap caan caac,.slice none 0 0,.slice none 0 0,.int .i64 (ra:Nat)] 81)).ownsRow w.heap.size 81 16 (.slice ov tn oc') tn oc:=ownsRow_keep HOw.out λ k hk=>HYa.out.up.block k (own_lt' HOw.out k hk).2 (λ e=>by have h1:=(own_lt' HOw.out k hk).1;have h2:=hbm.out;have h3:k=bm:=e;omega)
       have hbz:w.heap.size≤(w20.alloc (.cells #[.int .i64 4,.int .i64 0,.int .i64 0,.int .i64 0,.slice none 0 0,.int .i64 (cak:Nat),.int .i64 cao,.int .i64 (caw:Nat),.int .i64 (cas:Nat),.int .i64 (cal:Nat),.bool cag,.slice cavp cavn cavc,.slice caap caan caac,.slice none 0 0,.slice none 0 0,.int .i64 (ra:Nat)] 81)).heap.size:=Nat.le_trans HO.out.up.size HYa.out.up.size
       have hnw:(w20.alloc (.cells #[.int .i64 4,.int .i64 0,.int .i64 0,.int .i64 0,.slice none 0 0,.int .i64 (cak:Nat),.int .i64 cao,.int .i64 (caw:Nat),.int .i64 (cas:Nat),.int .i64 (cal:Nat),.bool cag,.slice cavp cavn cavc,.slice caap caan caac,.slice none 0 0,.slice none 0 0,.int .i64 (ra:Nat)] 81)).heap[w20.heap.size]? = some (.cells #[.int .i64 4,.int .i64 0,.int .i64 0,.int .i64 0,.slice none 0 0,.int .i64 (cak:Nat),.int .i64 cao,.int .i64 (caw:Nat),.int .i64 (cas:Nat),.int .i64 (cal:Nat),.bool cag,.slice cavp cavn cavc,.slice caap caan caac,.slice none 0 0,.slice none 0 0,.int .i64 (ra:Nat)] 81 (0,0)):=heap_alloc_new _ _
       have htn3:=HJ.out.2.2
       go_wp2_with (at_builtin;go_must (refine wpList_app rfl _ _ 70 rfl TSts w.heap.size (.slice ov tn oc') tn oc rfl hoa w20.heap.size 1 1 [.int .i64 4,.int .i64 0,.int .i64 0,.int .i64 0,.slice none 0 0,.int .i64 (cak:Nat),.int .i64 cao,.int .i64 (caw:Nat),.int .i64 (cas:Nat),.int .i64 (cal:Nat),.bool cag,.slice cavp cavn cavc,.slice caap caan caac,.slice none 0 0,.slice none 0 0,.int .i64 (ra:Nat)] rfl #[.int .i64 4,.int .i64 0,.int .i64 0,.int .i64 0,.slice none 0 0,.int .i64 (cak:Nat),.int .i64 cao,.int .i64 (caw:Nat),.int .i64 (cas:Nat),.int .i64 (cal:Nat),.bool cag,.slice cavp cavn cavc,.slice caap caan caac,.slice none 0 0,.slice none 0 0,.int .i64 (ra:Nat)] hnw rfl rfl (by simp [Value.oneCell']) Nat.one_pos (by omega) (by omega) hbz ?_);intro g cap w9 happ;have HP:=Lib.hid happ;clear happ)
       go_roundw
       case measure=>simp [intOf];have:=HJ.out.1;omega
       case rel =>
        have happ:=HP.out
        rw [←HJ.out.2.1] at happ
        have hO:=HO.out
        have hfin:=OutS.app (nc := [.int .i64 4,.int .i64 0,.int .i64 0,.int .i64 0,.slice none 0 0,.int .i64 (cak:Nat),.int .i64 cao,.int .i64 (caw:Nat),.int .i64 (cas:Nat),.int .i64 (cal:Nat),.bool cag,.slice cavp cavn cavc,.slice caap caan caac,.slice none 0 0,.slice none 0 0,.int .i64 (ra:Nat)]) hO HYa.out (sr_mk (h:=⟨4,0,0,0,ra,.nil,⟨cak,caw,cas,cal⟩,caa⟩) (b := .nil) (e := .nil) (HYa.out.t 0 rfl).1 ROA.nil tr_nil ROA.nil sr_nil ROA.nil sr_nil) (⟨⟨by simp,(show 0<n by have:=H.out.1.pos;have:=H.out.2.1;omega),by simp,by simp,by simp;omega,by simp [TL.len],trivial,(HYa.out.t 0 rfl).2⟩,by simp [SL.len],by simp [SL.len],trivial,trivial,trivial⟩) happ
        rw [HJ.out.2.1] at hfin
        refine ⟨j1,_,_,by go_num,?_,hfin⟩
        rw [SL.app_len,HJ.out.2.1];have:=HJ.out.2.2;simp [SL.len];omega
      | false =>
       clear hq
       go_upto_region 16 with fail
       have HY_w21:=Lib.hid (HY_w11.out.lay 81 [.int .i64 1,.int .i64 0,.int .i64 0,.int .i64 0,.slice none 0 0,.int .i64 0,.int .i64 0,.int .i64 0,.int .i64 0,.int .i64 0,.bool false,.slice none 0 0,.slice none 0 0,.slice none 0 0,.slice none 0 0,.int .i64 0])
       generalize hW21:w11.alloc (.cells #[.int .i64 1,.int .i64 0,.int .i64 0,.int .i64 0,.slice none 0 0,.int .i64 0,.int .i64 0,.int .i64 0,.int .i64 0,.int .i64 0,.bool false,.slice none 0 0,.slice none 0 0,.slice none 0 0,.slice none 0 0,.int .i64 0] 81)=w21 at *
       clear hW21 HY_w11
       go_cut [88] from 24 to 122 (λ v88 wx=>∃ q:Bool,v88 = .bool q∧MY bm n wr wx [(w11.heap.size,81, [.int .i64 1,.int .i64 0,.int .i64 0,.int .i64 0,.slice none 0 0,.int .i64 0,.int .i64 0,.int .i64 0,.int .i64 0,.int .i64 0,.bool false,.slice none 0 0,.slice none 0 0,.slice none 0 0,.slice none 0 0,.int .i64 0])] [] [] [])
       case first =>
        by_cases hk3:kind=3
        ·subst hk3
         go_wp2_with fail
         refine (next_any HY_w21.out.maker 5 (by omega) (by omega)).mono ?_;rintro e w22 ⟨rl,hlrl,rfl,hk22,hu22⟩
         have HY_w22:=Lib.hid (HY_w21.out.call hk22 hu22);clear hk22 hu22 HY_w21
         go_wp2_with fail
         go_meet
         exact ⟨_,rfl,HY_w22.out⟩
        ·have hki3:((kind:Int) == 3)=false:=by simp;omega
         go_wp2_with fail
         go_meet
         exact ⟨_,rfl,HY_w21.out⟩
       case rest =>
        obtain ⟨q,rfl,hY1⟩:=hcut
        have HY_wc:=Lib.hid hY1;clear hY1 HY_w21
        go_upto_if 88 with fail
        go_cut [] from 24 to 122 (λ wx=>∃ sk:Nat,(sk=1∨sk=2)∧MY bm n wr wx [(w11.heap.size,81, [.int .i64 (sk:Nat),.int .i64 0,.int .i64 0,.int .i64 0,.slice none 0 0,.int .i64 0,.int .i64 0,.int .i64 0,.int .i64 0,.int .i64 0,.bool false,.slice none 0 0,.slice none 0 0,.slice none 0 0,.slice none 0 0,.int .i64 0])] [] [] [])
        case first =>
         have d0:=(HY_wc.out.at 0 rfl).cell (i:=0) rfl
         have df0:=(HY_wc.out.at 0 rfl).frz 0
         cases q with
         | true =>
          go_wp2_with fail
          go_meet
          exact ⟨2,.inr rfl,HY_wc.out.set 0 (.int .i64 2)⟩
         | false =>
          go_wp2_with fail
          go_meet
          exact ⟨1,.inl rfl,HY_wc.out⟩
        case rest =>
         clear HY_wc
         obtain ⟨sk,hsk,hY1⟩:=hcut
         have HY_wc:=Lib.hid hY1;clear hY1
         go_wp2_with fail
         refine (next_any HY_wc.out.maker 40 (by omega) (by omega)).mono ?_;rintro e w23 ⟨rf,hlrf,rfl,hk23,hu23⟩
         have HY_w23:=Lib.hid (HY_wc.out.call hk23 hu23);clear hk23 hu23 HY_wc
         go_upto_if 92 with fail
         go_cut [] from 24 to 122 (λ wx=>∃ sk:Nat,(sk=1∨sk=2)∧MY bm n wr wx [(w11.heap.size,81, [.int .i64 (sk:Nat),.int .i64 0,.int .i64 0,.int .i64 0,.slice none 0 0,.int .i64 0,.int .i64 0,.int .i64 0,.int .i64 0,.int .i64 0,.bool false,.slice none 0 0,.slice none 0 0,.slice none 0 0,.slice none 0 0,.int .i64 0])] [] [] [])
         case first =>
          by_cases hf:rf=39
          ·subst hf
           have d0:=(HY_w23.out.at 0 rfl).cell (i:=0) rfl
           have df0:=(HY_w23.out.at 0 rfl).frz 0
           have hsw:IntKind.i64.wrap (3-(sk:Int))=((3-sk:Nat):Int):=by rw [i64_of (by omega)];omega
           have HSk:=Lib.hid hsk;clear hsk
           go_wp2_with fail
           go_meet
           exact ⟨3-sk,by have:=HSk.out;omega,by have:=HY_w23.out.set 0 (.int .i64 ((3-sk:Nat):Int));rw [hsw] at *;exact this⟩
          ·have hfi:((rf:Int) == 39)=false:=by simp;omega
           have HSk:=Lib.hid hsk;clear hsk hf
           go_wp2_with fail
           go_meet
           exact ⟨sk,HSk.out,HY_w23.out⟩
         case rest =>
          obtain ⟨sk1,hsk1,hY1⟩:=hcut
          have HSk:=Lib.hid hsk1;have HY_wc:=Lib.hid hY1;clear hsk1 hY1 hsk HY_w23
          go_wp2_with fail
          refine (next_any HY_wc.out.maker hw0 HHw.out.1 (by have:=HHw.out.2.1;omega)).mono ?_;rintro e w24 ⟨rs,hlrs,rfl,hk24,hu24⟩
          have HY_w24:=Lib.hid (HY_wc.out.call hk24 hu24);clear hk24 hu24 HY_wc
          obtain ⟨sg,hsg⟩:∃ sg,low+rs=sg:=⟨_,rfl⟩
          have hsgw:IntKind.i64.wrap ((low:Int)+(rs:Int))=(sg:Int):=by rw [i64_of (by have:=HHw.out;have:=H.out.1.le;have:=H.out.2.2.2.2.1;omega)];omega
          have hsgl:sg<l.length:=by have:=HHw.out;have:=H.out.2.2.2.2.1;omega
          obtain ⟨x,hx⟩:∃ x,l[sg]? = some x:=⟨_,List.getElem?_eq_getElem hsgl⟩
          have HX:=Lib.hid (And.intro hx hsgl);clear hx hsgl hsg hlrs
          go_wp2_with fail
          refine (HTg.out _ sg x _ HX.out.1 HY_w24.out.maker (HSg.out _ (HO.out.up.trans HY_w24.out.up))).mono ?_;rintro e w25 ⟨lo,wd,it,ip,ic,ics,rfl,hir,hit,hiw,hlo,hwd,hil,hi0,hk25,hu25⟩
          have HY_w25:=Lib.hid (HY_w24.out.idx hk25 hu25 hir hit hiw);have HI:=Lib.hid (And.intro hlo (And.intro hwd (And.intro hil hi0)));clear hk25 hu25 hir hit hiw hlo hwd hil hi0 HY_w24
          have d1:=(HY_w25.out.at 0 rfl).cell (i:=1) rfl
          have df1:=(HY_w25.out.at 0 rfl).frz 1
          have d2:=(HY_w25.out.at 0 rfl).cell (i:=2) rfl
          have df2:=(HY_w25.out.at 0 rfl).frz 2
          have d3:=(HY_w25.out.at 0 rfl).cell (i:=3) rfl
          have df3:=(HY_w25.out.at 0 rfl).frz 3
          have d4:=(HY_w25.out.at 0 rfl).cell (i:=4) rfl
          have df4:=(HY_w25.out.at 0 rfl).frz 4
          go_upto_region 22 with fail
          clear d1 d2 d3 d4 df1 df2 df3 df4
          have HY_w26:=Lib.hid ((((HY_w25.out.set 1 (.int .i64 (sg:Nat))).set 2 (.int .i64 (lo:Nat))).set 3 (.int .i64 (wd:Nat))).set 4 (.slice ip it.len ic))
          generalize hW26:((((w25.setCell ⟨w11.heap.size,1,none⟩ (.int .i64 (sg:Nat))).setCell ⟨w11.heap.size,2,none⟩ (.int .i64 (lo:Nat))).setCell ⟨w11.heap.size,3,none⟩ (.int .i64 (wd:Nat))).setCell ⟨w11.heap.size,4,none⟩ (.slice ip it.len ic))=w26 at *
          clear hW26 HY_w25
          have d1:=(HY_w26.out.at 0 rfl).cell (i:=1) rfl
          have d2:=(HY_w26.out.at 0 rfl).cell (i:=2) rfl
          have d3:=(HY_w26.out.at 0 rfl).cell (i:=3) rfl
          have d4:=(HY_w26.out.at 0 rfl).cell (i:=4) rfl
          go_wp2_with fail
          clear d1 d2 d3 d4
          refine (HWi.out _ sg x lo wd it.len ip ic HX.out.1 HI.out.2.2.2 (HSg.out _ (HO.out.up.trans HY_w26.out.up)).ro).mono ?_;rintro e w27 ⟨m,rfl,hm1,hm8,hb27⟩
          have HY_w27:=Lib.hid (HY_w26.out.below hb27);clear hb27 HY_w26
          go_wp2_with fail
          refine (HE.out _ m hm1 hm8 HY_w27.out.maker (HSg.out _ (HO.out.up.trans HY_w27.out.up))).mono ?_;intro e w28 hR;obtain ⟨⟨vak,vaw,vas,val⟩,vaa,vao,vag,vavp,vavn,vavc,vaap,vaan,vaac,rfl,htva,hwva,hk28,hu28⟩:=hR.open;clear hR
          have HY_w28:=Lib.hid (HY_w27.out.tree hk28 hu28 htva hwva);clear hk28 hu28 htva hwva HY_w27
          have d5:=(HY_w28.out.at 0 rfl).cell (i:=5) rfl
          have df5:=(HY_w28.out.at 0 rfl).frz 5
          have d6:=(HY_w28.out.at 0 rfl).cell (i:=6) rfl
          have df6:=(HY_w28.out.at 0 rfl).frz 6
          have d7:=(HY_w28.out.at 0 rfl).cell (i:=7) rfl
          have df7:=(HY_w28.out.at 0 rfl).frz 7
          have d8:=(HY_w28.out.at 0 rfl).cell (i:=8) rfl
          have df8:=(HY_w28.out.at 0 rfl).frz 8
          have d9:=(HY_w28.out.at 0 rfl).cell (i:=9) rfl
          have df9:=(HY_w28.out.at 0 rfl).frz 9
          have d10:=(HY_w28.out.at 0 rfl).cell (i:=10) rfl
          have df10:=(HY_w28.out.at 0 rfl).frz 10
          have d11:=(HY_w28.out.at 0 rfl).cell (i:=11) rfl
          have df11:=(HY_w28.out.at 0 rfl).frz 11
          have d12:=(HY_w28.out.at 0 rfl).cell (i:=12) rfl
          have df12:=(HY_w28.out.at 0 rfl).frz 12
          go_upto_region 23 with fail
          clear d5 df5 d6 df6 d7 df7 d8 df8 d9 df9 d10 df10 d11 df11 d12 df12
          have HY_w29:=Lib.hid ((((((((HY_w28.out.set 5 (.int .i64 (vak:Nat))).set 6 (.int .i64 vao)).set 7 (.int .i64 (vaw:Nat))).set 8 (.int .i64 (vas:Nat))).set 9 (.int .i64 (val:Nat))).set 10 (.bool vag)).set 11 (.slice vavp vavn vavc)).set 12 (.slice vaap vaan vaac))
          generalize hW29:((((((((w28.setCell ⟨w11.heap.size,5,none⟩ (.int .i64 (vak:Nat))).setCell ⟨w11.heap.size,6,none⟩ (.int .i64 vao)).setCell ⟨w11.heap.size,7,none⟩ (.int .i64 (vaw:Nat))).setCell ⟨w11.heap.size,8,none⟩ (.int .i64 (vas:Nat))).setCell ⟨w11.heap.size,9,none⟩ (.int .i64 (val:Nat))).setCell ⟨w11.heap.size,10,none⟩ (.bool vag)).setCell ⟨w11.heap.size,11,none⟩ (.slice vavp vavn vavc)).setCell ⟨w11.heap.size,12,none⟩ (.slice vaap vaan vaac))=w29 at *
          clear hW29 HY_w28
          have HYa:Hid (MY bm n wr (w29.alloc (.cells #[.int .i64 (sk1:Nat),.int .i64 (sg:Nat),.int .i64 (lo:Nat),.int .i64 (wd:Nat),.slice ip it.len ic,.int .i64 (vak:Nat),.int .i64 vao,.int .i64 (vaw:Nat),.int .i64 (vas:Nat),.int .i64 (val:Nat),.bool vag,.slice vavp vavn vavc,.slice vaap vaan vaac,.slice none 0 0,.slice none 0 0,.int .i64 0] 81)) _ _ _ _):=Lib.hid (HY_w29.out.lay 81 [.int .i64 (sk1:Nat),.int .i64 (sg:Nat),.int .i64 (lo:Nat),.int .i64 (wd:Nat),.slice ip it.len ic,.int .i64 (vak:Nat),.int .i64 vao,.int .i64 (vaw:Nat),.int .i64 (vas:Nat),.int .i64 (val:Nat),.bool vag,.slice vavp vavn vavc,.slice vaap vaan vaac,.slice none 0 0,.slice none 0 0,.int .i64 0])
          have hoa:(w29.alloc (.cells #[.int .i64 (sk1:Nat),.int .i64 (sg:Nat),.int .i64 (lo:Nat),.int .i64 (wd:Nat),.slice ip it.len ic,.int .i64 (vak:Nat),.int .i64 vao,.int .i64 (vaw:Nat),.int .i64 (vas:Nat),.int .i64 (val:Nat),.bool vag,.slice vavp vavn vavc,.slice vaap vaan vaac,.slice none 0 0,.slice none 0 0,.int .i64 0] 81)).ownsRow w.heap.size 81 16 (.slice ov tn oc') tn oc:=ownsRow_keep HOw.out λ k hk=>HYa.out.up.block k (own_lt' HOw.out k hk).2 (λ e=>by have h1:=(own_lt' HOw.out k hk).1;have h2:=hbm.out;have h3:k=bm:=e;omega)
          have hbz:w.heap.size≤(w29.alloc (.cells #[.int .i64 (sk1:Nat),.int .i64 (sg:Nat),.int .i64 (lo:Nat),.int .i64 (wd:Nat),.slice ip it.len ic,.int .i64 (vak:Nat),.int .i64 vao,.int .i64 (vaw:Nat),.int .i64 (vas:Nat),.int .i64 (val:Nat),.bool vag,.slice vavp vavn vavc,.slice vaap vaan vaac,.slice none 0 0,.slice none 0 0,.int .i64 0] 81)).heap.size:=Nat.le_trans HO.out.up.size HYa.out.up.size
          have hnw:(w29.alloc (.cells #[.int .i64 (sk1:Nat),.int .i64 (sg:Nat),.int .i64 (lo:Nat),.int .i64 (wd:Nat),.slice ip it.len ic,.int .i64 (vak:Nat),.int .i64 vao,.int .i64 (vaw:Nat),.int .i64 (vas:Nat),.int .i64 (val:Nat),.bool vag,.slice vavp vavn vavc,.slice vaap vaan vaac,.slice none 0 0,.slice none 0 0,.int .i64 0] 81)).heap[w29.heap.size]? = some (.cells #[.int .i64 (sk1:Nat),.int .i64 (sg:Nat),.int .i64 (lo:Nat),.int .i64 (wd:Nat),.slice ip it.len ic,.int .i64 (vak:Nat),.int .i64 vao,.int .i64 (vaw:Nat),.int .i64 (vas:Nat),.int .i64 (val:Nat),.bool vag,.slice vavp vavn vavc,.slice vaap vaan vaac,.slice none 0 0,.slice none 0 0,.int .i64 0] 81 (0,0)):=heap_alloc_new _ _
          have htn3:=HJ.out.2.2
          have hrg:=(HY_w29.out.at 0 rfl).range
          go_wp2_with (first | (refine wpList_load_mid rfl 81 _ rfl (w11.heap.size) 0 rfl [.int .i64 (sk1:Nat),.int .i64 (sg:Nat),.int .i64 (lo:Nat),.int .i64 (wd:Nat),.slice ip it.len ic,.int .i64 (vak:Nat),.int .i64 vao,.int .i64 (vaw:Nat),.int .i64 (vas:Nat),.int .i64 (val:Nat),.bool vag,.slice vavp vavn vavc,.slice vaap vaan vaac,.slice none 0 0,.slice none 0 0,.int .i64 0] _ hrg Try.underlying81 rfl sizeSt ?_) | (at_builtin;go_must (refine wpList_app rfl _ _ 70 rfl TSts w.heap.size (.slice ov tn oc') tn oc rfl hoa w29.heap.size 1 1 [.int .i64 (sk1:Nat),.int .i64 (sg:Nat),.int .i64 (lo:Nat),.int .i64 (wd:Nat),.slice ip it.len ic,.int .i64 (vak:Nat),.int .i64 vao,.int .i64 (vaw:Nat),.int .i64 (vas:Nat),.int .i64 (val:Nat),.bool vag,.slice vavp vavn vavc,.slice vaap vaan vaac,.slice none 0 0,.slice none 0 0,.int .i64 0] rfl #[.int .i64 (sk1:Nat),.int .i64 (sg:Nat),.int .i64 (lo:Nat),.int .i64 (wd:Nat),.slice ip it.len ic,.int .i64 (vak:Nat),.int .i64 vao,.int .i64 (vaw:Nat),.int .i64 (vas:Nat),.int .i64 (val:Nat),.bool vag,.slice vavp vavn vavc,.slice vaap vaan vaac,.slice none 0 0,.slice none 0 0,.int .i64 0] hnw rfl rfl (by simp [Value.oneCell']) Nat.one_pos (by omega) (by omega) hbz ?_);intro g cap w9 happ;have HP:=Lib.hid happ;clear happ))
          go_roundw
          case measure=>simp [intOf];have:=HJ.out.1;omega
          case rel =>
           have happ:=HP.out
           rw [←HJ.out.2.1] at happ
           have hO:=HO.out
           have hfin:=OutS.app (nc := [.int .i64 (sk1:Nat),.int .i64 (sg:Nat),.int .i64 (lo:Nat),.int .i64 (wd:Nat),.slice ip it.len ic,.int .i64 (vak:Nat),.int .i64 vao,.int .i64 (vaw:Nat),.int .i64 (vas:Nat),.int .i64 (val:Nat),.bool vag,.slice vavp vavn vavc,.slice vaap vaan vaac,.slice none 0 0,.slice none 0 0,.int .i64 0]) hO HYa.out (sr_mk (h:=⟨sk1,sg,lo,wd,0,it,⟨vak,vaw,vas,val⟩,vaa⟩) (b := .nil) (e := .nil) (HYa.out.t 0 rfl).1 (HYa.out.r 0 rfl) (HYa.out.t 1 rfl).1 ROA.nil sr_nil ROA.nil sr_nil) (⟨⟨by have:=HSk.out;simp;omega,by have:=HX.out.2;have:=H.out.2.1;simp;omega,by have:=HI.out.1;simp;omega,by have:=HI.out.2.1;simp;omega,by simp,by have:=HI.out.2.2.1;simp;omega,(HYa.out.t 1 rfl).2,(HYa.out.t 0 rfl).2⟩,by simp [SL.len],by simp [SL.len],trivial,trivial,trivial⟩) happ
           rw [HJ.out.2.1] at hfin
           refine ⟨j1,_,_,by go_num,?_,hfin⟩
           rw [SL.app_len,HJ.out.2.1];have:=HJ.out.2.2;simp [SL.len];omega
  ·obtain rfl:j=0:=by omega
   have hji:¬(0:Int)<((0:Nat):Int):=by omega
   clear hlen htn hj hown
   go_wp2_with fail
   go_ret
   exact ⟨t,ov,oc',oc,by rw [HL.out.2];rfl,HO.out.own,HO.out.sr,HO.out.wf,by have:=HL.out.1;omega,HO.out.maker,HO.out.up⟩
theorem mstmts_any {bm n c:Nat} {p:Option Addr} {l:List Sg} (hS:Sgs l) (hn:l.length≤n) (hn8:n≤8) (kind low high:Nat) (hkind:1≤kind∧kind≤3) (hlh:low<high) (hhl:high≤l.length):∀ deep:Nat,1≤deep→deep≤1000→StC bm n (.slice p l.length c) l kind low high deep
 | 0,h,_=>absurd h (by omega)
 | deep+1,_,hd=>λ w hk hs=>by
  refine mstmts_step hS hn hn8 kind low high (deep+1) hkind hlh hhl ⟨by omega,hd⟩ ?_ hk hs
  by_cases h1:deep=0
  ·exact .inl (by omega)
  ·exact .inr (mstmts_any hS hn hn8 kind low high hkind hlh hhl deep (by omega) (by omega))
end Go.Proofs.Ytlklleaocbnbcaa
