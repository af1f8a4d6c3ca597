import Derived.Test.YtlklleaocbnbcaaZ32
namespace Go.Proofs.Ytlklleaocbnbcaa
set_option linter.unusedVariables false
open Go.RowKit Go.Sort
theorem latS_row:∀ (t:SL) (s:Us) (k:Nat),((latS t s).getD k []).length=(s.getD k []).length
 | .nil,_,_=>rfl
 | .cons x b e r,s,k=>by rw [latS,latS_row r,latN_row]
theorem latS_len:∀ (t:SL) (s:Us),(latS t s).length=s.length
 | .nil,_=>rfl
 | .cons x b e r,s=>by rw [latS,latS_len r,latN_len]
theorem set_at_self (u:Us) (i:Nat) (h:i<u.length) (r:List Bool) (e:u.getD i []=r):u.set i r=u:=by rw [←e];exact set_self_us u i h
set_option maxRecDepth 100000 in
set_option maxHeartbeats 16000000 in
theorem lat_step {base ab:Nat} {h:AHd} {l:List Sg} {sp:Option Addr} {sc kd y1 y2 y3:Nat} {bp:Option Addr} {bnn bcp:Nat} {t:SL} (hba:base≤ab) (hh:h.sg = .slice sp l.length sc) (htw:t.wf l.length) (htl:t.len≤1000000)
  (ih:AllS (λ _ b e=>LatK base ab h l sp sc kd y1 y2 y3 bp bnn bcp b∧LatK base ab h l sp sc kd y1 y2 y3 bp bnn bcp e) t):LatK base ab h l sp sc kd y1 y2 y3 bp bnn bcp t:=λ b g w u V p1 p2 p3 e p c cs hb hu hbb hna hwu hsg hr hs=>by
 obtain ⟨N,hN⟩:∃ n,l.length=n:=⟨_,rfl⟩
 obtain ⟨ln,hln⟩:∃ m,t.len=m:=⟨_,rfl⟩
 obtain ⟨RS,hRS⟩:∃ R,latS t u=R:=⟨_,rfl⟩
 obtain ⟨RC,hRC⟩:∃ R,latC l t u=R:=⟨_,rfl⟩
 have H:Hid (ROA (λ q=>q<base) w (.slice p ln c) 20 ln cs∧SF (λ q=>q<base) w t cs∧t.len=ln∧ln≤1000000∧t.wf l.length∧AllS (λ _ b e=>LatK base ab h l sp sc kd y1 y2 y3 bp bnn bcp b∧LatK base ab h l sp sc kd y1 y2 y3 bp bnn bcp e) t∧SgsM base w sp sc l∧base≤ab∧base≤b∧h.sg = .slice sp N sc):=Lib.hid ⟨by rw [←hln];exact hr,hs,hln,by rw [←hln];exact htl,htw,ih,hsg,hba,hbb,by rw [←hN];exact hh⟩
 have HN:Hid (l.length=N∧N≤1000):=Lib.hid ⟨hN,by rw [←hN];exact hsg.le⟩
 have HR:Hid (WU (sizes l) u∧latS t u=RS∧latC l t u=RC):=Lib.hid ⟨hwu,hRS,hRC⟩
 have HL1:=Lib.hid ((LQ.start hb hu hna).lay 49 [.int .i64 kd,.int .i64 y1,.int .i64 y2,.int .i64 y3,.slice bp bnn bcp])
 change Hid (LQ _ _ _ _ _ _ _ _ _ _ (w.alloc (.cells #[.int .i64 kd,.int .i64 y1,.int .i64 y2,.int .i64 y3,.slice bp bnn bcp] 49))) at HL1
 rw [hln,hRS,hRC,hN]
 clear hr hs htl htw ih hsg hba hbb hh hwu hRS hRC hb hu hna hln hN
 go_enter Try.func52,Try.ntmps52
 go_upto_region 1 with fail
 obtain ⟨xp,hxp⟩:∃ b,w.heap.size=b:=⟨_,rfl⟩
 rw [hxp] at HL1 ⊢
 generalize w.alloc (.cells #[.int .i64 kd,.int .i64 y1,.int .i64 y2,.int .i64 y3,.slice bp bnn bcp] 49)=w1 at *
 have HXp:=Lib.hid hxp
 clear hxp
 go_wp2_with fail
 go_loopw [22] (λ iv wr=>∃ (i:Nat) (r:SL) (u':Us) (C':Prop),iv = .int .i64 i∧i+r.len=ln∧SF (λ q=>q<base) w r (cs.drop (i*20))∧AllS (λ _ b e=>LatK base ab h l sp sc kd y1 y2 y3 bp bnn bcp b∧LatK base ab h l sp sc kd y1 y2 y3 bp bnn bcp e) r∧r.wf l.length∧WU (sizes l) u'∧latS r u'=RS∧((C'∧latC l r u')↔RC)∧LQ ab h b g V w e [(xp,49, [.int .i64 kd,.int .i64 y1,.int .i64 y2,.int .i64 y3,.slice bp bnn bcp])] (C') (u') wr) (λ iv _=>ln-(intOf iv).toNat)
 case atStart=>exact ⟨0,t,u,True,rfl,by rw [Nat.zero_add];exact H.out.2.2.1,by simpa using H.out.2.1,H.out.2.2.2.2.2.1,H.out.2.2.2.2.1,HR.out.1,HR.out.2.1,by rw [HR.out.2.2];simp,HL1.out⟩
 case round =>
  obtain ⟨i,r,u',C',rfl,hil,hSr,hAl,hwf,hwu,hRr,hCr,hLr⟩:=hrel
  clear HL1
  by_cases hlt:i<ln
  ·obtain ⟨h0,b0,e0,r0,rfl⟩:∃ h0 b0 e0 r0,r = .cons h0 b0 e0 r0:=by
    cases r with
    | nil=>simp only [SL.len] at hil;omega
    | cons h0 b0 e0 r0=>exact ⟨h0,b0,e0,r0,rfl⟩
   obtain ⟨cs0,hcl,hat,hone,hrest⟩:=sf_at hSr
   obtain ⟨op,sg,vw,pv,vn,vc,pa,ca,pi,ci,ic,pb,cb,bc,pe,ce,ec,rfl,hvt,hir,hit,hbr,hbs,her,hes⟩:=sf_one hone
   have hlow:=hLr.low H.out.2.2.2.2.2.2.2.1 H.out.2.2.2.2.2.2.2.2.1
   have hra:RO wr (.slice p ln c) 20 ln cs:=((MSt.ro _ _ _ _) _ (λ _=>True) _ wr (λ b hb _=>⟨trivial,hlow.block b hb⟩) H.out.1).ro
   obtain ⟨lb,lo20,rfl⟩:=hra.sl (hat 0 (by omega))
   obtain ⟨LU,hLU⟩:∃ L,latU l h0=L:=⟨_,rfl⟩
   have hLUd:addsP (sizes l) (addsP (sizes l) (List.replicate l.length []) (atT h0.vh h0.va)) (atL h0.idx)=LU:=by rw [←hLU,←addsP_app];rfl
   obtain ⟨gl,hgl⟩:∃ G:Nat→Prop,(λ k=>latB l h0 u' k=false)=G:=⟨_,rfl⟩
   have hgB:∀ k,gl k↔(!(LU.getD k []).isEmpty && (!(u'.getD k []).isEmpty && (u'.getD k []).contains false))=false:=λ k=>by rw [←hgl,←hLU];rfl
   have hgR:Till gl N↔latR l h0 u':=by rw [←hgl,←HN.out.1];rfl
   obtain ⟨NU,hNU⟩:∃ v,latN h0 (latS b0 u') (latS e0 u') u'=v:=⟨_,rfl⟩
   have hRr2:latS r0 NU=RS:=by rw [←hNU];exact hRr
   have hCr2:(C'∧latR l h0 u'∧(h0.k=3→latC l b0 u'∧latC l e0 u')∧latC l r0 NU)↔RC:=by rw [←hNU];exact hCr
   have hNUw:WU (sizes l) NU:=by rw [←hNU];exact hwu.latN _ _ _
   unfold latN at hNU
   have hh0:=hwf.1
   obtain ⟨sk,ss,slo,swd,sas,idx,⟨vk,vhw,vs,vlo⟩,va⟩:=h0
   dsimp only at hat hvt hir hit hone hLUd hNU hCr2
   obtain ⟨xn,hxn⟩:∃ n,idx.len=n:=⟨_,rfl⟩
   obtain ⟨bn0,hbn0⟩:∃ n,b0.len=n:=⟨_,rfl⟩
   obtain ⟨en0,hen0⟩:∃ n,e0.len=n:=⟨_,rfl⟩
   rw [hxn,hbn0,hen0] at hat
   rw [hxn] at hNU
   have hrg:wr.rangeAt lb (lo20+i*20) [.int .i64 sk,.int .i64 0,.int .i64 0,.int .i64 0,.int .i64 ss,.int .i64 slo,.int .i64 swd,.slice pi xn ci,.int .i64 vk,.int .i64 op,.int .i64 vhw,.int .i64 vs,.int .i64 vlo,.bool sg,.int .i64 vw,.slice pv vn vc,.slice pa va.len ca,.slice pb bn0 cb,.slice pe en0 ce,.int .i64 sas]:=λ j v hj=>by
    have hj20:j<20:=by have:=(List.getElem?_eq_some_iff.1 hj).1;simpa using this
    have:=hra.cell ((hat j hj20).trans hj)
    rwa [←Nat.add_assoc] at this
   have hii:(i:Int)<(ln:Int):=by omega
   have hi0:(0:Int)≤(i:Int):=by omega
   have hiw:IntKind.i64.wrap ((i:Int)+1)=((i+1:Nat):Int):=by rw [i64_of (by have:=H.out.2.2.2.1;omega)];rfl
   have HE:=Lib.hid (And.intro hAl (And.intro hwf (And.intro hrest (And.intro hlt (And.intro hil (And.intro hRr2 (And.intro hCr2 (And.intro hNUw (And.intro hNU hwu)))))))))
   have HV:=Lib.hid (And.intro hvt (And.intro hir (And.intro hit (And.intro hbr (And.intro hbs (And.intro her (And.intro hes (And.intro hxn (And.intro hbn0 (And.intro hen0 hh0))))))))))
   have HU:=Lib.hid (And.intro hLUd (And.intro hgB hgR))
   have HL:=Lib.hid (hLr.lay 64 [.int .i64 sk,.int .i64 0,.int .i64 0,.int .i64 0,.int .i64 ss,.int .i64 slo,.int .i64 swd,.slice pi xn ci,.int .i64 vk,.int .i64 op,.int .i64 vhw,.int .i64 vs,.int .i64 vlo,.bool sg,.int .i64 vw,.slice pv vn vc,.slice pa va.len ca,.slice pb bn0 cb,.slice pe en0 ce,.int .i64 sas])
   clear hcl hat hone hrest hra hSr hAl hwf hRr hCr hLr hil hlt hbr hbs her hes hvt hir hit hlow hLU hLUd hgl hgB hgR hRr2 hCr2 hNUw hNU hwu hxn hbn0 hen0 hh0
   go_upto_region 4 with (first | (refine wpList_load_mid rfl 64 _ rfl (lb) (lo20+i*20) rfl [.int .i64 sk,.int .i64 0,.int .i64 0,.int .i64 0,.int .i64 ss,.int .i64 slo,.int .i64 swd,.slice pi xn ci,.int .i64 vk,.int .i64 op,.int .i64 vhw,.int .i64 vs,.int .i64 vlo,.bool sg,.int .i64 vw,.slice pv vn vc,.slice pa va.len ca,.slice pb bn0 cb,.slice pe en0 ce,.int .i64 sas] _ hrg Try.underlying64 rfl sizeFs ?_) | (refine wpList_store_new rfl 64 _ _ rfl [.int .i64 sk,.int .i64 0,.int .i64 0,.int .i64 0,.int .i64 ss,.int .i64 slo,.int .i64 swd,.slice pi xn ci,.int .i64 vk,.int .i64 op,.int .i64 vhw,.int .i64 vs,.int .i64 vlo,.bool sg,.int .i64 vw,.slice pv vn vc,.slice pa va.len ca,.slice pb bn0 cb,.slice pe en0 ce,.int .i64 sas] [.int .i64 0,.int .i64 0,.int .i64 0,.int .i64 0,.int .i64 0,.int .i64 0,.int .i64 0,.slice none 0 0,.int .i64 0,.int .i64 0,.int .i64 0,.int .i64 0,.int .i64 0,.bool false,.int .i64 0,.slice none 0 0,.slice none 0 0,.slice none 0 0,.slice none 0 0,.int .i64 0] 64 rfl rfl rfl sizeFs (by simp [Value.oneCell']) ?_))
   change Hid (LQ _ _ _ _ _ _ _ _ _ _ (wr.alloc (.cells #[.int .i64 sk,.int .i64 0,.int .i64 0,.int .i64 0,.int .i64 ss,.int .i64 slo,.int .i64 swd,.slice pi xn ci,.int .i64 vk,.int .i64 op,.int .i64 vhw,.int .i64 vs,.int .i64 vlo,.bool sg,.int .i64 vw,.slice pv vn vc,.slice pa va.len ca,.slice pb bn0 cb,.slice pe en0 ce,.int .i64 sas] 64))) at HL
   obtain ⟨xb,hxb⟩:∃ b,wr.heap.size=b:=⟨_,rfl⟩
   rw [hxb] at HL ⊢
   generalize wr.alloc (.cells #[.int .i64 sk,.int .i64 0,.int .i64 0,.int .i64 0,.int .i64 ss,.int .i64 slo,.int .i64 swd,.slice pi xn ci,.int .i64 vk,.int .i64 op,.int .i64 vhw,.int .i64 vs,.int .i64 vlo,.bool sg,.int .i64 vw,.slice pv vn vc,.slice pa va.len ca,.slice pb bn0 cb,.slice pe en0 ce,.int .i64 sas] 64)=w5 at *
   clear hxb hrg
   have a0:=HL.out.cell (i:=0) (v := .slice sp N sc) (λ _ _ _ _=>congrArg some H.out.2.2.2.2.2.2.2.2.2)
   have hmk:=λ w=>mk_uses N (by have:=HN.out.2;omega) w
   have hbw5:base≤w5.heap.size:=by have:=HL.out.up.size;have:=HL.out.lt;have:=H.out.2.2.2.2.2.2.2.1;omega
   have hu6:=UsM.start (w:=w5) (base:=base) N hbw5
   have hL6:=HL.out.below (Below.new w5 (.cells ((List.range N).map λ _=>Value.slice none 0 0).toArray 73))
   have hx6:∀ x∈([(xb,64, [.int .i64 sk,.int .i64 0,.int .i64 0,.int .i64 0,.int .i64 ss,.int .i64 slo,.int .i64 swd,.slice pi xn ci,.int .i64 vk,.int .i64 op,.int .i64 vhw,.int .i64 vs,.int .i64 vlo,.bool sg,.int .i64 vw,.slice pv vn vc,.slice pa va.len ca,.slice pb bn0 cb,.slice pe en0 ce,.int .i64 sas]),(xp,49, [.int .i64 kd,.int .i64 y1,.int .i64 y2,.int .i64 y3,.slice bp bnn bcp])]:Bx),x.1<w5.heap.size:=λ x hx=>(HL.out.blk x hx).1.lt
   have hgw:w.heap.size≤w5.heap.size:=HL.out.up.size
   have hs6:(w5.alloc (.cells ((List.range N).map λ _=>Value.slice none 0 0).toArray 73)).heap.size=w5.heap.size+1:=World.size_alloc _ _
   go_upto_region 5 with fail
   obtain ⟨gu,hgu⟩:∃ b,w5.heap.size=b:=⟨_,rfl⟩
   rw [hgu] at hu6 hx6 hgw hs6 ⊢
   generalize w5.alloc (.cells ((List.range N).map λ _=>Value.slice none 0 0).toArray 73)=w6 at *
   have H6:=Lib.hid (And.intro hu6 (And.intro hL6 (And.intro hx6 (And.intro hgw hs6))))
   clear hu6 hL6 hx6 hgw hs6 hgu hmk a0 hbw5 HL
   have a0:=H6.out.2.1.cell (i:=0) (v := .slice sp N sc) (λ _ _ _ _=>congrArg some H.out.2.2.2.2.2.2.2.2.2)
   have x8:=(H6.out.2.1.at 0 rfl).cell (i:=8) rfl
   have x9:=(H6.out.2.1.at 0 rfl).cell (i:=9) rfl
   have x10:=(H6.out.2.1.at 0 rfl).cell (i:=10) rfl
   have x11:=(H6.out.2.1.at 0 rfl).cell (i:=11) rfl
   have x12:=(H6.out.2.1.at 0 rfl).cell (i:=12) rfl
   have x13:=(H6.out.2.1.at 0 rfl).cell (i:=13) rfl
   have x14:=(H6.out.2.1.at 0 rfl).cell (i:=14) rfl
   have x15:=(H6.out.2.1.at 0 rfl).cell (i:=15) rfl
   have x16:=(H6.out.2.1.at 0 rfl).cell (i:=16) rfl
   have HX:Hid (∀ (h:TH) (a:TL) (W:World) (u2:Us) (V2:Nat→Value) (fc:List Value),(TL.cons h a .nil).wf l.length→UsM base gu W u2 V2→WU (sizes l) u2→Below base w W→TF (λ q=>q<base) w (.cons h a .nil) fc→Calls Try.prog 42 #[usV gu N,.slice sp N sc,.agg fc.toArray] W (UaddR base gu W V2 (addsP (sizes l) u2 (atT h a)))):=Lib.hid λ h a W u2 V2 fc h1 h2 h3 h4 h5=>by
    have:=(ux_all (base:=base) (p:=sp) (c:=sc) h1).1 gu W u2 V2 fc h2 h3 (H.out.2.2.2.2.2.2.1.low h4) (h5.turn EF.stay λ b hb _=>⟨hb,h4.block b hb⟩)
    rw [HN.out.1] at this
    exact this
   have H6d:Hid (UsM base gu w6.drew (List.replicate N []) (λ _ => .slice none 0 0)∧LQ ab h b g V w e [(xb,64, [.int .i64 sk,.int .i64 0,.int .i64 0,.int .i64 0,.int .i64 ss,.int .i64 slo,.int .i64 swd,.slice pi xn ci,.int .i64 vk,.int .i64 op,.int .i64 vhw,.int .i64 vs,.int .i64 vlo,.bool sg,.int .i64 vw,.slice pv vn vc,.slice pa va.len ca,.slice pb bn0 cb,.slice pe en0 ce,.int .i64 sas]),(xp,49, [.int .i64 kd,.int .i64 y1,.int .i64 y2,.int .i64 y3,.slice bp bnn bcp])] (C') (u') w6.drew):=Lib.hid ⟨H6.out.1.below (Below.refl _ _).drew,H6.out.2.1.drew⟩
   have hsd:w6.drew.heap.size=gu+1:=H6.out.2.2.2.2
   have HSd:=Lib.hid hsd
   clear hsd
   refine wp_region_still_tail 8 (by kernel_rfl) (by kernel_rfl) ?_
   simp only [List.take_succ_cons,List.take_zero,List.drop_succ_cons,List.drop_zero]
   change wpStill _ _ w6.drew (λ a'=>wpList _ _ _ _ a' w6.drew) _ _
   replace a0:w6.drew.cell? _=_:=a0
   replace x8:w6.drew.cell? _=_:=x8
   replace x9:w6.drew.cell? _=_:=x9
   replace x10:w6.drew.cell? _=_:=x10
   replace x11:w6.drew.cell? _=_:=x11
   replace x12:w6.drew.cell? _=_:=x12
   replace x13:w6.drew.cell? _=_:=x13
   replace x14:w6.drew.cell? _=_:=x14
   replace x15:w6.drew.cell? _=_:=x15
   replace x16:w6.drew.cell? _=_:=x16
   generalize w6.drew=wq at *
   refine WS.out ?_
   iterate 8 (refine ws_step (λ K hK => ?_);go_simp;refine hK _ ?_;clear hK K)
   refine ws_nil ?_
   clear a0 x8 x9 x10 x11 x12 x13 x14 x15 x16
   go_wp2_with fail
   refine (HX.out ⟨vk,vhw,vs,vlo⟩ va wq _ _ _ HV.out.2.2.2.2.2.2.2.2.2.2.2.2.2.2.2.2.2 H6d.out.1 (by rw [←HN.out.1];have:=WU.none (sizes l);rw [show (sizes l).length=l.length by simp [sizes]] at this;exact this) (H6d.out.2.low H.out.2.2.2.2.2.2.2.1 H.out.2.2.2.2.2.2.2.2.1) HV.out.1).mono ?_;rintro en w7 ⟨rfl,V7,h7⟩
   have hFV:∀ {W:World} {u2:Us} {V2:Nat→Value},UsU base gu wq W (λ _ => .slice none 0 0) u2 V2→∀ k,FV gu V2 k→gu≤k:=λ hU k hk=>by
    rcases hU.up.sub k hk with e1 | e1
    ·rw [fv_nil] at e1;omega
    ·have:=HSd.out;omega
   have HFV:Hid (∀ {W:World} {u2:Us} {V2:Nat→Value},UsU base gu wq W (λ _ => .slice none 0 0) u2 V2→∀ k,FV gu V2 k→gu≤k):=Lib.hid hFV
   clear hFV
   have hL7:=H6d.out.2.upd h7.up (λ k hk=>by rw [fv_nil] at hk;have:=H6.out.2.2.2.1;omega) (λ k hk x hx=>by rw [fv_nil] at hk;have:=H6.out.2.2.1 x hx;omega)
   have H7:=Lib.hid (And.intro h7 hL7)
   clear h7 hL7
   have x7:=(H7.out.2.at 0 rfl).cell (i:=7) rfl
   go_wp2_with fail
   go_loopw [46] (λ jv wr=>∃ (j:Nat) (r:TL) (u2:Us) (V2:Nat→Value),jv = .int .i64 (j:Nat)∧j+r.len=xn∧TF (λ q=>q<base) w r (ic.drop (j*9))∧r.wf l.length∧WU (sizes l) u2∧UsU base gu wq wr (λ _ => .slice none 0 0) u2 V2∧LQ ab h b g V w e [(xb,64, [.int .i64 sk,.int .i64 0,.int .i64 0,.int .i64 0,.int .i64 ss,.int .i64 slo,.int .i64 swd,.slice pi xn ci,.int .i64 vk,.int .i64 op,.int .i64 vhw,.int .i64 vs,.int .i64 vlo,.bool sg,.int .i64 vw,.slice pv vn vc,.slice pa va.len ca,.slice pb bn0 cb,.slice pe en0 ce,.int .i64 sas]),(xp,49, [.int .i64 kd,.int .i64 y1,.int .i64 y2,.int .i64 y3,.slice bp bnn bcp])] (C') (u') wr∧addsP (sizes l) u2 (atL r)=LU) (λ jv _=>xn-(intOf jv).toNat)
   case atStart=>exact ⟨0,idx,_,V7,rfl,by rw [Nat.zero_add];exact HV.out.2.2.2.2.2.2.2.1,by simpa using HV.out.2.2.1,HV.out.2.2.2.2.2.2.2.2.2.2.2.2.2.2.2.2.1,(by rw [←HN.out.1];have:=WU.none (sizes l);rw [show (sizes l).length=l.length by simp [sizes]] at this;exact this.adds _),H7.out.1,H7.out.2,by rw [←HN.out.1];exact HU.out.1⟩
   case round =>
    obtain ⟨j,r,u2,V2,rfl,hjl,hTr,hrw,hwu,hU,hLj,hRr⟩:=hrel
    clear x7
    by_cases hlt:j<xn
    ·obtain ⟨h1,b1,r1,rfl⟩:∃ h0 b0 r0,r = .cons h0 b0 r0:=by
      cases r with
      | nil=>simp only [TL.len] at hjl;omega
      | cons h0 b0 r0=>exact ⟨h0,b0,r0,rfl⟩
     obtain ⟨cs1,hcl,hat,hone,hrest⟩:=tf_at hTr
     obtain ⟨op0,sg0,vw0,pv0,vn0,vc0,pa0,ca0,ac0,rfl,_⟩:=tf_one hone
     have hlow:=hLj.low H.out.2.2.2.2.2.2.2.1 H.out.2.2.2.2.2.2.2.2.1
     have hra:RO wr (.slice pi idx.len ci) 9 idx.len ic:=((MSt.ro _ _ _ _) _ (λ _=>True) _ wr (λ b hb _=>⟨trivial,hlow.block b hb⟩) HV.out.2.1).ro
     rw [HV.out.2.2.2.2.2.2.2.1] at hra
     obtain ⟨ib,io,rfl⟩:=hra.sl (hat 0 (by omega))
     obtain ⟨k0,w0,s0,lo0⟩:=h1
     obtain ⟨an0,han0⟩:∃ n,b1.len=n:=⟨_,rfl⟩
     rw [han0] at hone hat
     dsimp only at hone hat
     have hrg:wr.rangeAt ib (io+j*9) [.int .i64 k0,.int .i64 op0,.int .i64 w0,.int .i64 s0,.int .i64 lo0,.bool sg0,.int .i64 vw0,.slice pv0 vn0 vc0,.slice pa0 an0 ca0]:=λ q v hj=>by
      have hj9:q<9:=by have:=(List.getElem?_eq_some_iff.1 hj).1;simpa using this
      have:=hra.cell ((hat q hj9).trans hj)
      rwa [←Nat.add_assoc] at this
     have hjj:(j:Int)<(xn:Int):=by omega
     have hj0:(0:Int)≤(j:Int):=by omega
     have hjw:IntKind.i64.wrap ((j:Int)+1)=((j+1:Nat):Int):=by rw [i64_of (by have:=HV.out.2.2.2.2.2.2.2.2.2.2.2.2.2.2.2.1;have:=HV.out.2.2.2.2.2.2.2.1;dsimp only at *;omega)];rfl
     have HJ:=Lib.hid (And.intro hone (And.intro hrest (And.intro hrw (And.intro hwu (And.intro hlt (And.intro hjl hRr))))))
     have hUlt:=hU.us.mem.lt
     have HU8:=Lib.hid (hU.below (Below.new wr (.cells #[.int .i64 k0,.int .i64 op0,.int .i64 w0,.int .i64 s0,.int .i64 lo0,.bool sg0,.int .i64 vw0,.slice pv0 vn0 vc0,.slice pa0 an0 ca0] 62)))
     have HL8:=Lib.hid (hLj.lay 62 [.int .i64 k0,.int .i64 op0,.int .i64 w0,.int .i64 s0,.int .i64 lo0,.bool sg0,.int .i64 vw0,.slice pv0 vn0 vc0,.slice pa0 an0 ca0])
     clear hat hone hrest hra hTr hrw hwu hU hLj hRr hlt hjl hcl hlow han0
     go_upto_region 9 with (first | (refine wpList_load_mid rfl 62 _ rfl (ib) (io+j*9) rfl [.int .i64 k0,.int .i64 op0,.int .i64 w0,.int .i64 s0,.int .i64 lo0,.bool sg0,.int .i64 vw0,.slice pv0 vn0 vc0,.slice pa0 an0 ca0] _ hrg Try.underlying62 rfl sizeEx ?_) | (refine wpList_store_new rfl 62 _ _ rfl [.int .i64 k0,.int .i64 op0,.int .i64 w0,.int .i64 s0,.int .i64 lo0,.bool sg0,.int .i64 vw0,.slice pv0 vn0 vc0,.slice pa0 an0 ca0] [.int .i64 0,.int .i64 0,.int .i64 0,.int .i64 0,.int .i64 0,.bool false,.int .i64 0,.slice none 0 0,.slice none 0 0] 62 rfl rfl rfl sizeEx (by simp [Value.oneCell']) ?_))
     change Hid (UsU base gu wq (wr.alloc (.cells #[.int .i64 k0,.int .i64 op0,.int .i64 w0,.int .i64 s0,.int .i64 lo0,.bool sg0,.int .i64 vw0,.slice pv0 vn0 vc0,.slice pa0 an0 ca0] 62)) _ _ _) at HU8
     change Hid (LQ _ _ _ _ _ _ _ _ _ _ (wr.alloc (.cells #[.int .i64 k0,.int .i64 op0,.int .i64 w0,.int .i64 s0,.int .i64 lo0,.bool sg0,.int .i64 vw0,.slice pv0 vn0 vc0,.slice pa0 an0 ca0] 62))) at HL8
     have hyg:gu<wr.heap.size:=hUlt
     obtain ⟨yb,hyb⟩:∃ b,wr.heap.size=b:=⟨_,rfl⟩
     rw [hyb] at HL8 hyg ⊢
     generalize wr.alloc (.cells #[.int .i64 k0,.int .i64 op0,.int .i64 w0,.int .i64 s0,.int .i64 lo0,.bool sg0,.int .i64 vw0,.slice pv0 vn0 vc0,.slice pa0 an0 ca0] 62)=w8 at *
     clear hyb hrg
     have HYg:=Lib.hid hyg
     clear hyg
     have a0:=HL8.out.cell (i:=0) (v := .slice sp N sc) (λ _ _ _ _=>congrArg some H.out.2.2.2.2.2.2.2.2.2)
     have z0:=(HL8.out.at 0 rfl).cell (i:=0) rfl
     have z1:=(HL8.out.at 0 rfl).cell (i:=1) rfl
     have z2:=(HL8.out.at 0 rfl).cell (i:=2) rfl
     have z3:=(HL8.out.at 0 rfl).cell (i:=3) rfl
     have z4:=(HL8.out.at 0 rfl).cell (i:=4) rfl
     have z5:=(HL8.out.at 0 rfl).cell (i:=5) rfl
     have z6:=(HL8.out.at 0 rfl).cell (i:=6) rfl
     have z7:=(HL8.out.at 0 rfl).cell (i:=7) rfl
     have z8:=(HL8.out.at 0 rfl).cell (i:=8) rfl
     have HU8d:=Lib.hid (HU8.out.below (Below.refl _ _).drew)
     have HL8d:=Lib.hid HL8.out.drew
     refine wp_region_still_tail 7 (by kernel_rfl) (by kernel_rfl) ?_
     simp only [List.take_succ_cons,List.take_zero,List.drop_succ_cons,List.drop_zero]
     change wpStill _ _ w8.drew (λ a'=>wpList _ _ _ _ a' w8.drew) _ _
     replace a0:w8.drew.cell? _=_:=a0
     replace z0:w8.drew.cell? _=_:=z0
     replace z1:w8.drew.cell? _=_:=z1
     replace z2:w8.drew.cell? _=_:=z2
     replace z3:w8.drew.cell? _=_:=z3
     replace z4:w8.drew.cell? _=_:=z4
     replace z5:w8.drew.cell? _=_:=z5
     replace z6:w8.drew.cell? _=_:=z6
     replace z7:w8.drew.cell? _=_:=z7
     replace z8:w8.drew.cell? _=_:=z8
     generalize w8.drew=w9 at *
     refine WS.out ?_
     iterate 7 (refine ws_step (λ K hK => ?_);go_simp;refine hK _ ?_;clear hK K)
     refine ws_nil ?_
     clear a0 z0 z1 z2 z3 z4 z5 z6 z7 z8
     go_wp2_with fail
     refine (HX.out ⟨k0,w0,s0,lo0⟩ b1 w9 _ V2 _ ?_ HU8d.out.us HJ.out.2.2.2.1 (HL8d.out.low H.out.2.2.2.2.2.2.2.1 H.out.2.2.2.2.2.2.2.2.1) HJ.out.1).mono ?_
     ·have hz:=HJ.out.2.2.1
      exact ⟨hz.1,hz.2.1,hz.2.2.1,hz.2.2.2.1,hz.2.2.2.2.1,hz.2.2.2.2.2.1,hz.2.2.2.2.2.2.1,hz.2.2.2.2.2.2.2.1,trivial⟩
     rintro en w10 ⟨rfl,V10,h10⟩
     have hne10:∀ k,FV gu V2 k→∀ x∈([(xb,64, [.int .i64 sk,.int .i64 0,.int .i64 0,.int .i64 0,.int .i64 ss,.int .i64 slo,.int .i64 swd,.slice (some ⟨ib,io,none⟩) xn ci,.int .i64 vk,.int .i64 op,.int .i64 vhw,.int .i64 vs,.int .i64 vlo,.bool sg,.int .i64 vw,.slice pv vn vc,.slice pa va.len ca,.slice pb bn0 cb,.slice pe en0 ce,.int .i64 sas]),(xp,49, [.int .i64 kd,.int .i64 y1,.int .i64 y2,.int .i64 y3,.slice bp bnn bcp])]:Bx),x.1≠k:=λ k hk x hx=>by
      have:=HFV.out HU8d.out k hk;have:=H6.out.2.2.1 x hx;omega
     have hL10:=(HL8d.out.drop 1).upd h10.up (λ k hk=>Nat.le_trans H6.out.2.2.2.1 (HFV.out HU8d.out k hk)) hne10
     have H10:=Lib.hid (And.intro (HU8d.out.call h10) hL10)
     clear h10 hL10 hne10
     go_wp2_with fail
     go_roundw
     case measure=>simp [intOf];have:=HJ.out.2.2.2.2.1;omega
     case rel =>
      refine ⟨j+1,r1,_,V10,by go_num,by have:=HJ.out.2.2.2.2.2.1;simp only [TL.len] at this;omega,HJ.out.2.1,HJ.out.2.2.1.2.2.2.2.2.2.2.2,HJ.out.2.2.2.1.adds _,H10.out.1,H10.out.2,?_⟩
      rw [←addsP_app]
      exact HJ.out.2.2.2.2.2.2
    ·obtain rfl:r = .nil:=by
      cases r with
      | nil=>rfl
      | cons h0 b0 r0=>simp only [TL.len] at hjl;omega
     have hjj:¬(j:Int)<(xn:Int):=by simp only [TL.len] at hjl;omega
     have hfin:u2=LU:=hRr
     subst hfin
     have hul:u2.length=N:=by rw [hwu.1,sizes,List.length_map];exact HN.out.1
     have hus:US (λ k=>gu≤k) wr (usV gu N) u2:=by
      have:=hU.us.us
      rw [hul] at this
      exact this.turn λ k hk _=>⟨HFV.out hU k hk,rfl⟩
     have HB:=Lib.hid (And.intro hLj (And.intro hus hul))
     clear hLj hus hul hU hRr hjl hTr hrw hwu hlt H7 HX
     go_wp2_with fail
     go_loopw [61] (λ kv wr=>∃ k:Nat,kv = .int .i64 k∧k≤N∧LQ ab h b g V w e [(xb,64, [.int .i64 sk,.int .i64 0,.int .i64 0,.int .i64 0,.int .i64 ss,.int .i64 slo,.int .i64 swd,.slice pi xn ci,.int .i64 vk,.int .i64 op,.int .i64 vhw,.int .i64 vs,.int .i64 vlo,.bool sg,.int .i64 vw,.slice pv vn vc,.slice pa va.len ca,.slice pb bn0 cb,.slice pe en0 ce,.int .i64 sas]),(xp,49, [.int .i64 kd,.int .i64 y1,.int .i64 y2,.int .i64 y3,.slice bp bnn bcp])] (C'∧Till gl k) (u') wr∧US (λ k=>gu≤k) wr (usV gu N) u2) (λ kv _=>N-(intOf kv).toNat)
     case atStart=>exact ⟨0,rfl,Nat.zero_le _,HB.out.1.iff (by rw [Till.zero];simp),HB.out.2.1⟩
     case round =>
      obtain ⟨k,rfl,hkn,hLk,husk⟩:=hrel
      by_cases hlt:k<N
      ·have hkk:(k:Int)<(N:Int):=by omega
       have hk0:(0:Int)≤(k:Int):=by omega
       have hkw:IntKind.i64.wrap ((k:Int)+1)=((k+1:Nat):Int):=by rw [i64_of (by have:=HN.out.2;omega)];rfl
       obtain ⟨bq,oq,pu,cu,hpu,_,hcu,_,hzu⟩:=husk.get (us_at HB.out.2.2 hlt)
       cases hpu
       rw [Nat.zero_add] at hcu
       have hul':u'.length=N:=by rw [HE.out.2.2.2.2.2.2.2.2.2.1,sizes,List.length_map];exact HN.out.1
       have husS:=hLk.us.us
       rw [hul'] at husS
       obtain ⟨bq2,oq2,ps,cps,hps,_,hcs,hrow,hzs⟩:=husS.get (us_at hul' hlt)
       cases hps
       rw [Nat.zero_add] at hcs
       have hgk:=HU.out.2.1 k
       have hrl:=HE.out.2.2.2.2.2.2.2.2.2.le H.out.2.2.2.2.2.2.1 k
       generalize u2.getD k []=ru at *
       generalize hrs:u'.getD k []=rs at *
       obtain ⟨nu,hnu⟩:∃ n,ru.length=n:=⟨_,rfl⟩
       obtain ⟨ns,hns⟩:∃ n,rs.length=n:=⟨_,rfl⟩
       rw [hnu] at hcu
       rw [hns] at hcs hrow hrl
       obtain ⟨zu,hzu2⟩:∃ z,ru.isEmpty=z:=⟨_,rfl⟩
       obtain ⟨zs,hzs2⟩:∃ z,rs.isEmpty=z:=⟨_,rfl⟩
       obtain ⟨cf,hcf⟩:∃ z,rs.contains false=z:=⟨_,rfl⟩
       rw [hzu2] at hzu
       rw [hzs2] at hzs
       rw [hzu2,hzs2,hcf] at hgk
       have hB:=hasB_any (w:=wr.drew) (il:=rs) hrow.ro (by omega) false
       rw [hcf] at hB
       have HK:=Lib.hid (And.intro hLk.drew (And.intro (husk.turn (A':=λ k=>gu≤k) (w':=wr.drew) λ k hk _=>⟨hk,rfl⟩) (And.intro hgk (And.intro hB hlt))))
       have xp1:=(hLk.at 1 rfl).cell (i:=1) rfl
       have xp2:=(hLk.at 1 rfl).cell (i:=2) rfl
       have xp3:=(hLk.at 1 rfl).cell (i:=3) rfl
       clear hLk husk hgk hB hlt hkn husS hrow hrl hrs hnu hns hzu2 hzs2 hcf hul'
       have qN:=ne_nilB
       go_upto_region 14 with fail
       cases zu
       case true =>
        refine wp_region_still_tail 22 (by kernel_rfl) (by kernel_rfl) ?_
        simp only [List.take_succ_cons,List.take_zero,List.drop_succ_cons,List.drop_zero]
        change wpStill _ _ wr.drew (λ a'=>wpList _ _ _ _ a' wr.drew) _ _
        replace hcu:wr.drew.cell? _=_:=hcu
        replace hcs:wr.drew.cell? _=_:=hcs
        replace xp1:wr.drew.cell? _=_:=xp1
        replace xp2:wr.drew.cell? _=_:=xp2
        replace xp3:wr.drew.cell? _=_:=xp3
        generalize wr.drew=wz at *
        refine WS.out ?_
        iterate 22 (refine ws_step (λ K hK => ?_);go_simp;refine hK _ ?_;clear hK K)
        refine ws_nil ?_
        clear hcu hcs xp1 xp2 xp3
        go_wp2_with fail
        refine (lq_fail HK.out.1 false y1 y2 y3 16 (by decide)).mono ?_;rintro en w12 ⟨rfl,h12,hu12⟩
        have hus12:US (λ k=>gu≤k) w12 (usV gu N) u2:=HK.out.2.1.turn λ k hk hlt=>⟨hk,hu12.block k hlt (λ e=>by have e2:k=ab:=e;have:=HK.out.1.lt;have:=H6.out.2.2.2.1;omega)⟩
        have H12:=Lib.hid (And.intro (h12.iff (C':=C'∧Till gl (k+1)) (by rw [Till.succ,HK.out.2.2.1];simp [])) hus12)
        clear h12 hu12 hus12
        go_wp2_with fail
        go_roundw
        case measure=>simp [intOf];have:=HK.out.2.2.2.2;omega
        case rel=>exact ⟨k+1,by go_num,HK.out.2.2.2.2,H12.out.1,H12.out.2⟩
       case false =>
        cases zs
        case true =>
         refine wp_region_still_tail 22 (by kernel_rfl) (by kernel_rfl) ?_
         simp only [List.take_succ_cons,List.take_zero,List.drop_succ_cons,List.drop_zero]
         change wpStill _ _ wr.drew (λ a'=>wpList _ _ _ _ a' wr.drew) _ _
         replace hcu:wr.drew.cell? _=_:=hcu
         replace hcs:wr.drew.cell? _=_:=hcs
         replace xp1:wr.drew.cell? _=_:=xp1
         replace xp2:wr.drew.cell? _=_:=xp2
         replace xp3:wr.drew.cell? _=_:=xp3
         generalize wr.drew=wz at *
         refine WS.out ?_
         iterate 22 (refine ws_step (λ K hK => ?_);go_simp;refine hK _ ?_;clear hK K)
         refine ws_nil ?_
         clear hcu hcs xp1 xp2 xp3
         go_wp2_with fail
         refine (lq_fail HK.out.1 false y1 y2 y3 16 (by decide)).mono ?_;rintro en w12 ⟨rfl,h12,hu12⟩
         have hus12:US (λ k=>gu≤k) w12 (usV gu N) u2:=HK.out.2.1.turn λ k hk hlt=>⟨hk,hu12.block k hlt (λ e=>by have e2:k=ab:=e;have:=HK.out.1.lt;have:=H6.out.2.2.2.1;omega)⟩
         have H12:=Lib.hid (And.intro (h12.iff (C':=C'∧Till gl (k+1)) (by rw [Till.succ,HK.out.2.2.1];simp [])) hus12)
         clear h12 hu12 hus12
         go_wp2_with fail
         go_roundw
         case measure=>simp [intOf];have:=HK.out.2.2.2.2;omega
         case rel=>exact ⟨k+1,by go_num,HK.out.2.2.2.2,H12.out.1,H12.out.2⟩
        case false =>
         refine wp_region_still_tail 22 (by kernel_rfl) (by kernel_rfl) ?_
         simp only [List.take_succ_cons,List.take_zero,List.drop_succ_cons,List.drop_zero]
         change wpStill _ _ wr.drew (λ a'=>wpList _ _ _ _ a' wr.drew) _ _
         replace hcu:wr.drew.cell? _=_:=hcu
         replace hcs:wr.drew.cell? _=_:=hcs
         replace xp1:wr.drew.cell? _=_:=xp1
         replace xp2:wr.drew.cell? _=_:=xp2
         replace xp3:wr.drew.cell? _=_:=xp3
         generalize wr.drew=wz at *
         refine WS.out ?_
         iterate 18 (refine ws_step (λ K hK => ?_);go_simp;refine hK _ ?_;clear hK K)
         refine ws_step (λ K hK => ?_)
         go_simp
         refine ⟨_,HK.out.2.2.2.1,hK _ ?_⟩
         clear hK K
         iterate 3 (refine ws_step (λ K hK => ?_);go_simp;refine hK _ ?_;clear hK K)
         refine ws_nil ?_
         clear hcu hcs xp1 xp2 xp3
         go_wp2_with fail
         refine (lq_fail HK.out.1 cf y1 y2 y3 16 (by decide)).mono ?_;rintro en w12 ⟨rfl,h12,hu12⟩
         have hus12:US (λ k=>gu≤k) w12 (usV gu N) u2:=HK.out.2.1.turn λ k hk hlt=>⟨hk,hu12.block k hlt (λ e=>by have e2:k=ab:=e;have:=HK.out.1.lt;have:=H6.out.2.2.2.1;omega)⟩
         have H12:=Lib.hid (And.intro (h12.iff (C':=C'∧Till gl (k+1)) (by rw [Till.succ,HK.out.2.2.1];simp [and_assoc])) hus12)
         clear h12 hu12 hus12
         go_wp2_with fail
         go_roundw
         case measure=>simp [intOf];have:=HK.out.2.2.2.2;omega
         case rel=>exact ⟨k+1,by go_num,HK.out.2.2.2.2,H12.out.1,H12.out.2⟩
      ·obtain rfl:N=k:=by omega
       have hkk:¬(N:Int)<(N:Int):=by omega
       obtain ⟨C2,hC2⟩:∃ C2:Prop,(C'∧Till gl N)=C2:=⟨_,rfl⟩
       rw [hC2] at hLk
       have HCr:Hid ((C2∧(sk=3→latC l b0 u'∧latC l e0 u')∧latC l r0 NU)↔RC):=Lib.hid (by rw [←hC2,HU.out.2.2,←HE.out.2.2.2.2.2.2.1];simp only [and_assoc])
       have HL2:=Lib.hid hLk
       clear hLk husk hlt hkn hC2 HB HU
       have x0:=(HL2.out.at 0 rfl).cell (i:=0) rfl
       by_cases hk3:sk=3
       ·have hk3i:((sk:Int) == 3)=true:=by rw [hk3];rfl
        have HK3:=Lib.hid hk3
        clear hk3
        go_upto_region 17 with fail
        clear x0
        have xp0:=(HL2.out.at 1 rfl).cell (i:=0) rfl
        have xp1:=(HL2.out.at 1 rfl).cell (i:=1) rfl
        have xp2:=(HL2.out.at 1 rfl).cell (i:=2) rfl
        have xp3:=(HL2.out.at 1 rfl).cell (i:=3) rfl
        have xp4:=(HL2.out.at 1 rfl).cell (i:=4) rfl
        have xq:=(HL2.out.at 0 rfl).cell (i:=17) rfl
        have HTr:=Lib.hid (Tr.nil wr)
        refine wp_region_webCR (w0:=wr) [.known (.pointer (some ⟨ab,0,none⟩)),.known (.agg #[.int .i64 kd,.int .i64 y1,.int .i64 y2,.int .i64 y3,.slice bp bnn bcp]),.known (.pointer (some ⟨xb,17,none⟩)),.known (.slice pb bn0 cb),.known (usV g N),.rel (UsV wr.heap.size N u') (λ _ => [])] [1,1,1,1,1,1] [] 98 2 #[true,true,true,true,true,true,false,false] (by kernel_rfl) (by kernel_rfl) rfl rfl rfl (Nat.le_of_ble_eq_true rfl) ⟨Sp.Mono.known,Sp.Mono.known,Sp.Mono.known,Sp.Mono.known,Sp.Mono.known,mono_us,trivial⟩ HTr.out.drew (λ _ _ _ _ _ h=>h) (A := ?_) ?_ ?_ ?_
        rotate_left
        ·intro u
         simp only [fillC,Sp.val,Nat.reduceBEq,cond_false,Act.put,List.setIfInBounds_toArray,List.set_cons_zero,List.set_cons_succ]
         rfl
        iterate 5 (refine ob_yes (web_op (o:=_) rfl (λ u W hT hd Q K hK => ?_)) ?_;· (have cc0:=aft xp0 hT.bel;have cc1:=aft xp1 hT.bel;have cc2:=aft xp2 hT.bel;have cc3:=aft xp3 hT.bel;have cc4:=aft xp4 hT.bel;have cc5:=aft xq hT.bel;go_simp;exact hK.out _ _ (Below.refl _ _) rfl (λ p hp=>by cases hp) List.nodup_nil))
        refine ob_yes (web_op (o:=_) rfl (λ u W hT hd Q K hK => ?_)) ?_
        ·(try simp only [Act.put,List.setIfInBounds_toArray,List.set_cons_zero,List.set_cons_succ] at hK)
         have cc0:=aft xp0 hT.bel
         have cc1:=aft xp1 hT.bel
         have cc2:=aft xp2 hT.bel
         have cc3:=aft xp3 hT.bel
         have cc4:=aft xp4 hT.bel
         have cc5:=aft xq hT.bel
         go_simp
         refine (sclone_any (HL2.out.us.below hT.bel) (by rw [HE.out.2.2.2.2.2.2.2.2.2.1,sizes,List.length_map];exact HN.out.1) HN.out.2 (λ k=>by have:=HE.out.2.2.2.2.2.2.2.2.2.le H.out.2.2.2.2.2.2.1 k;omega)).mono ?_;rintro en w6 ⟨g',V',rfl,hu6,hb6⟩
         exact hK.out _ _ hb6 ⟨g',V',_,rfl,hT.bel.size,hu6⟩ (λ p hp=>by cases hp) List.nodup_nil
        exact ob_nil
        intro u wx hT hok
        obtain ⟨h0,h1,h2,h3,h4,h5,_⟩:=hok
        clear h0 h1 h2 h3 h4
        simp only [ownsC,Sp.own,Nat.reduceBEq,cond_false,List.append_nil] at hT
        have d5:=h5 (by kernel_rfl)
        clear h5
        generalize u 5=x5 at *
        obtain ⟨g5a,V5a,b5a,rfl,hb5a,hU5a⟩:=d5
        (try dsimp only [List.nil_append,List.cons_append] at hT)
        have HTE:=Lib.hid hT
        clear hT
        clear HTr xp0 xp1 xp2 xp3 xp4 xq
        have hLxa:=HL2.out.below HTE.out.bel
        obtain ⟨r1,r2,r3,e6,han6,_⟩:=hLxa.an
        have hsz:w.heap.size≤wr.heap.size:=HL2.out.up.size
        have hlab:=HL2.out.lt
        have hbx:base≤b5a:=by have:=H.out.2.2.2.2.2.2.2.1;omega
        have hnx:¬FV g5a V5a ab:=λ hf=>by have:=(hU5a.flt _ hf).1;omega
        have hlw:=hLxa.low H.out.2.2.2.2.2.2.2.1 H.out.2.2.2.2.2.2.2.2.1
        have hcall:=HE.out.1.1.1 b5a g5a wx u' V5a r1 r2 r3 e6 pb cb bc han6 hU5a hbx hnx HE.out.2.2.2.2.2.2.2.2.2 (H.out.2.2.2.2.2.2.1.low hlw) (HV.out.2.2.2.1.turn λ k hk hk2=>⟨hk,hlw.block k hk⟩) (HV.out.2.2.2.2.1.turn EF.stay λ k hk hk2=>⟨hk,hlw.block k hk⟩)
        rw [HV.out.2.2.2.2.2.2.2.2.1,HN.out.1] at hcall
        have HCall:=Lib.hid (And.intro hcall (And.intro hLxa (And.intro hU5a (And.intro hb5a (And.intro han6 (And.intro hsz hlab))))))
        clear hcall hLxa hU5a hb5a han6 hbx hnx hlw hsz hlab
        refine wpAny_of_held (S:=λ _=>True) _ _ _ _ ?_
        refine wpAnyH_ready (rs := [6]) (by kernel_rfl) (by simp) ?_
        refine held_cons rfl (λ K hK => ?_) AllReadyH.nil
        go_simp
        refine HCall.out.1.mono ?_;rintro en w7a ⟨rfl,hU7,⟨q1,q2,q3,e7,han7,hi7⟩,hup7⟩
        have hbnd:∀ k,FV g5a V5a k→wr.heap.size≤k:=λ k hk=>by have:=(HCall.out.2.2.1.flt k hk).1;have:=HCall.out.2.2.2.1;omega
        have hbox:∀ x∈([(xb,64, [.int .i64 sk,.int .i64 0,.int .i64 0,.int .i64 0,.int .i64 ss,.int .i64 slo,.int .i64 swd,.slice pi xn ci,.int .i64 vk,.int .i64 op,.int .i64 vhw,.int .i64 vs,.int .i64 vlo,.bool sg,.int .i64 vw,.slice pv vn vc,.slice pa va.len ca,.slice pb bn0 cb,.slice pe en0 ce,.int .i64 sas]),(xp,49, [.int .i64 kd,.int .i64 y1,.int .i64 y2,.int .i64 y3,.slice bp bnn bcp])]:Bx),x.1<wr.heap.size:=λ x hx=>(HL2.out.blk x hx).1.lt
        have hL7:=HCall.out.2.1.nest (C2:=latC l b0 u') (λ s1 s2 s3 e8 hb8=>⟨q1,q2,q3,e7,han7,by
         have:=blk_inj hb8 HCall.out.2.2.2.2.1
         unfold AHd.cells at this
         simp only [List.cons.injEq,Value.int.injEq,true_and,and_true] at this
         rw [hi7,this.2.2.2]⟩) hup7 (λ k hk=>by
         rcases hk with e9 | e9
         ·exact .inl e9
         ·exact .inr ⟨by have:=hbnd k e9;have:=HCall.out.2.2.2.2.2.1;omega,λ x hx=>by have:=hbnd k e9;have:=hbox x hx;omega⟩)
        have hus7:US (λ k=>wr.heap.size≤k) w7a (usV g5a N) (latS b0 u'):=by
         have hul:(latS b0 u').length=N:=by rw [latS_len,HE.out.2.2.2.2.2.2.2.2.2.1,sizes,List.length_map];exact HN.out.1
         have:=hU7.us
         rw [hul] at this
         exact this.turn λ k hk _=>⟨hbnd k hk,rfl⟩
        have HUpa:Hid (Upd (FL ab g5a V5a) (FL ab g5a V5a) wx w7a∧Below wr.heap.size wr wx∧(∀ k,FV g5a V5a k→wr.heap.size≤k)):=Lib.hid ⟨hup7,HTE.out.bel,hbnd⟩
        have H7a:=Lib.hid (And.intro hL7 hus7)
        clear hU7 han7 hi7 hup7 hL7 hus7 hbnd hbox
        (try go_simp)
        refine hK.out _ _ trivial (λ _ => ?_)
        clear hK K
        (try simp only [List.setIfInBounds_toArray,List.set_cons_zero,List.set_cons_succ])
        refine wpAnyH_ready (rs := [7]) (by kernel_rfl) (by simp) ?_
        refine held_cons rfl (λ K hK => ?_) AllReadyH.nil
        go_simp
        refine hK.out _ _ trivial (λ _ => ?_)
        clear hK K
        (try simp only [List.setIfInBounds_toArray,List.set_cons_zero,List.set_cons_succ])
        refine wpAnyH_done (by kernel_rfl) ?_ _
        clear HCall HTE
        have HLa:=Lib.hid H7a.out.1
        go_upto_region 18 with fail
        have xp0:=(HLa.out.at 1 rfl).cell (i:=0) rfl
        have xp1:=(HLa.out.at 1 rfl).cell (i:=1) rfl
        have xp2:=(HLa.out.at 1 rfl).cell (i:=2) rfl
        have xp3:=(HLa.out.at 1 rfl).cell (i:=3) rfl
        have xp4:=(HLa.out.at 1 rfl).cell (i:=4) rfl
        have xq:=(HLa.out.at 0 rfl).cell (i:=18) rfl
        have HTr:=Lib.hid (Tr.nil w7a)
        refine wp_region_webCR (w0:=w7a) [.known (.pointer (some ⟨ab,0,none⟩)),.known (.agg #[.int .i64 kd,.int .i64 y1,.int .i64 y2,.int .i64 y3,.slice bp bnn bcp]),.known (.pointer (some ⟨xb,18,none⟩)),.known (.slice pe en0 ce),.known (usV g N),.rel (UsV w7a.heap.size N u') (λ _ => [])] [1,1,1,1,1,1] [] 105 2 #[true,true,true,true,true,true,false,false] (by kernel_rfl) (by kernel_rfl) rfl rfl rfl (Nat.le_of_ble_eq_true rfl) ⟨Sp.Mono.known,Sp.Mono.known,Sp.Mono.known,Sp.Mono.known,Sp.Mono.known,mono_us,trivial⟩ HTr.out.drew (λ _ _ _ _ _ h=>h) (A := ?_) ?_ ?_ ?_
        rotate_left
        ·intro u
         simp only [fillC,Sp.val,Nat.reduceBEq,cond_false,Act.put,List.setIfInBounds_toArray,List.set_cons_zero,List.set_cons_succ]
         rfl
        iterate 5 (refine ob_yes (web_op (o:=_) rfl (λ u W hT hd Q K hK => ?_)) ?_;· (have cc0:=aft xp0 hT.bel;have cc1:=aft xp1 hT.bel;have cc2:=aft xp2 hT.bel;have cc3:=aft xp3 hT.bel;have cc4:=aft xp4 hT.bel;have cc5:=aft xq hT.bel;go_simp;exact hK.out _ _ (Below.refl _ _) rfl (λ p hp=>by cases hp) List.nodup_nil))
        refine ob_yes (web_op (o:=_) rfl (λ u W hT hd Q K hK => ?_)) ?_
        ·(try simp only [Act.put,List.setIfInBounds_toArray,List.set_cons_zero,List.set_cons_succ] at hK)
         have cc0:=aft xp0 hT.bel
         have cc1:=aft xp1 hT.bel
         have cc2:=aft xp2 hT.bel
         have cc3:=aft xp3 hT.bel
         have cc4:=aft xp4 hT.bel
         have cc5:=aft xq hT.bel
         go_simp
         refine (sclone_any (HLa.out.us.below hT.bel) (by rw [HE.out.2.2.2.2.2.2.2.2.2.1,sizes,List.length_map];exact HN.out.1) HN.out.2 (λ k=>by have:=HE.out.2.2.2.2.2.2.2.2.2.le H.out.2.2.2.2.2.2.1 k;omega)).mono ?_;rintro en w6 ⟨g',V',rfl,hu6,hb6⟩
         exact hK.out _ _ hb6 ⟨g',V',_,rfl,hT.bel.size,hu6⟩ (λ p hp=>by cases hp) List.nodup_nil
        exact ob_nil
        intro u wx hT hok
        obtain ⟨h0,h1,h2,h3,h4,h5,_⟩:=hok
        clear h0 h1 h2 h3 h4
        simp only [ownsC,Sp.own,Nat.reduceBEq,cond_false,List.append_nil] at hT
        have d5:=h5 (by kernel_rfl)
        clear h5
        generalize u 5=x5 at *
        obtain ⟨g5b,V5b,b5b,rfl,hb5b,hU5b⟩:=d5
        (try dsimp only [List.nil_append,List.cons_append] at hT)
        have HTE:=Lib.hid hT
        clear hT
        clear HTr xp0 xp1 xp2 xp3 xp4 xq
        have hLxb:=HLa.out.below HTE.out.bel
        obtain ⟨r1,r2,r3,e6,han6,_⟩:=hLxb.an
        have hsz:w.heap.size≤w7a.heap.size:=HLa.out.up.size
        have hlab:=HLa.out.lt
        have hbx:base≤b5b:=by have:=H.out.2.2.2.2.2.2.2.1;omega
        have hnx:¬FV g5b V5b ab:=λ hf=>by have:=(hU5b.flt _ hf).1;omega
        have hlw:=hLxb.low H.out.2.2.2.2.2.2.2.1 H.out.2.2.2.2.2.2.2.2.1
        have hcall:=HE.out.1.1.2 b5b g5b wx u' V5b r1 r2 r3 e6 pe ce ec han6 hU5b hbx hnx HE.out.2.2.2.2.2.2.2.2.2 (H.out.2.2.2.2.2.2.1.low hlw) (HV.out.2.2.2.2.2.1.turn λ k hk hk2=>⟨hk,hlw.block k hk⟩) (HV.out.2.2.2.2.2.2.1.turn EF.stay λ k hk hk2=>⟨hk,hlw.block k hk⟩)
        rw [HV.out.2.2.2.2.2.2.2.2.2.1,HN.out.1] at hcall
        have HCall:=Lib.hid (And.intro hcall (And.intro hLxb (And.intro hU5b (And.intro hb5b (And.intro han6 (And.intro hsz hlab))))))
        clear hcall hLxb hU5b hb5b han6 hbx hnx hlw hsz hlab
        refine wpAny_of_held (S:=λ _=>True) _ _ _ _ ?_
        refine wpAnyH_ready (rs := [6]) (by kernel_rfl) (by simp) ?_
        refine held_cons rfl (λ K hK => ?_) AllReadyH.nil
        go_simp
        refine HCall.out.1.mono ?_;rintro en w7b ⟨rfl,hU7,⟨q1,q2,q3,e7,han7,hi7⟩,hup7⟩
        have hbnd:∀ k,FV g5b V5b k→w7a.heap.size≤k:=λ k hk=>by have:=(HCall.out.2.2.1.flt k hk).1;have:=HCall.out.2.2.2.1;omega
        have hbox:∀ x∈([(xb,64, [.int .i64 sk,.int .i64 0,.int .i64 0,.int .i64 0,.int .i64 ss,.int .i64 slo,.int .i64 swd,.slice pi xn ci,.int .i64 vk,.int .i64 op,.int .i64 vhw,.int .i64 vs,.int .i64 vlo,.bool sg,.int .i64 vw,.slice pv vn vc,.slice pa va.len ca,.slice pb bn0 cb,.slice pe en0 ce,.int .i64 sas]),(xp,49, [.int .i64 kd,.int .i64 y1,.int .i64 y2,.int .i64 y3,.slice bp bnn bcp])]:Bx),x.1<w7a.heap.size:=λ x hx=>(HLa.out.blk x hx).1.lt
        have hL7:=HCall.out.2.1.nest (C2:=latC l e0 u') (λ s1 s2 s3 e8 hb8=>⟨q1,q2,q3,e7,han7,by
         have:=blk_inj hb8 HCall.out.2.2.2.2.1
         unfold AHd.cells at this
         simp only [List.cons.injEq,Value.int.injEq,true_and,and_true] at this
         rw [hi7,this.2.2.2]⟩) hup7 (λ k hk=>by
         rcases hk with e9 | e9
         ·exact .inl e9
         ·exact .inr ⟨by have:=hbnd k e9;have:=HCall.out.2.2.2.2.2.1;omega,λ x hx=>by have:=hbnd k e9;have:=hbox x hx;omega⟩)
        have hus7:US (λ k=>w7a.heap.size≤k) w7b (usV g5b N) (latS e0 u'):=by
         have hul:(latS e0 u').length=N:=by rw [latS_len,HE.out.2.2.2.2.2.2.2.2.2.1,sizes,List.length_map];exact HN.out.1
         have:=hU7.us
         rw [hul] at this
         exact this.turn λ k hk _=>⟨hbnd k hk,rfl⟩
        have HUpb:Hid (Upd (FL ab g5b V5b) (FL ab g5b V5b) wx w7b∧Below w7a.heap.size w7a wx∧(∀ k,FV g5b V5b k→w7a.heap.size≤k)):=Lib.hid ⟨hup7,HTE.out.bel,hbnd⟩
        have H7b:=Lib.hid (And.intro hL7 hus7)
        clear hU7 han7 hi7 hup7 hL7 hus7 hbnd hbox
        (try go_simp)
        refine hK.out _ _ trivial (λ _ => ?_)
        clear hK K
        (try simp only [List.setIfInBounds_toArray,List.set_cons_zero,List.set_cons_succ])
        refine wpAnyH_ready (rs := [7]) (by kernel_rfl) (by simp) ?_
        refine held_cons rfl (λ K hK => ?_) AllReadyH.nil
        go_simp
        refine hK.out _ _ trivial (λ _ => ?_)
        clear hK K
        (try simp only [List.setIfInBounds_toArray,List.set_cons_zero,List.set_cons_succ])
        refine wpAnyH_done (by kernel_rfl) ?_ _
        clear HCall HTE
        have hT:US (λ k=>w.heap.size≤k) w7b (usV g5a N) (latS b0 u'):=H7a.out.2.turn λ k hk hlt=>⟨Nat.le_trans HL2.out.up.size hk,?_⟩
        rotate_left
        ·rw [HUpb.out.1.block k (Nat.lt_of_lt_of_le hlt HUpb.out.2.1.size) (λ e9 => ?_)]
         ·exact HUpb.out.2.1.block k hlt
         ·rcases e9 with e9 | e9
          ·have:=HL2.out.lt;have:=HL2.out.up.size;omega
          ·have:=HUpb.out.2.2 k e9;omega
        have hT2:US (λ k=>w.heap.size≤k) w7b (usV g5b N) (latS e0 u'):=H7b.out.2.turn λ k hk _=>⟨Nat.le_trans HLa.out.up.size hk,rfl⟩
        obtain ⟨C3,hC3⟩:∃ C3:Prop,((C2∧latC l b0 u')∧latC l e0 u')=C3:=⟨_,rfl⟩
        have hLb:=H7b.out.1
        rw [hC3] at hLb
        have HC3:=Lib.hid hC3
        clear hC3
        have HNU:Hid (andT u' (latS b0 u') (latS e0 u') N=NU):=Lib.hid (by have:=HE.out.2.2.2.2.2.2.2.2.1;rw [if_pos HK3.out,HE.out.2.2.2.2.2.2.2.2.2.1,sizes,List.length_map,HN.out.1] at this;exact this)
        obtain ⟨TB,hTB⟩:∃ t,latS b0 u'=t:=⟨_,rfl⟩
        obtain ⟨TE,hTE2⟩:∃ t,latS e0 u'=t:=⟨_,rfl⟩
        have HTl:Hid (TB.length=N∧TE.length=N∧(∀ k,(TB.getD k []).length=(u'.getD k []).length)∧(∀ k,(TE.getD k []).length=(u'.getD k []).length)∧u'.length=N):=Lib.hid (by
         have hul:u'.length=N:=by rw [HE.out.2.2.2.2.2.2.2.2.2.1,sizes,List.length_map];exact HN.out.1
         rw [←hTB,←hTE2]
         exact ⟨by rw [latS_len];exact hul,by rw [latS_len];exact hul,latS_row _ _,latS_row _ _,hul⟩)
        rw [hTB,hTE2] at HNU
        rw [hTB] at hT
        rw [hTE2] at hT2
        clear hTB hTE2
        have HS:=Lib.hid (And.intro hLb (And.intro hT hT2))
        clear hLb hT hT2 HLa H7a H7b HUpa HUpb
        go_wp2_with fail
        go_loopw [108] (λ iv wr=>∃ q:Nat,iv = .int .i64 q∧q≤N∧LQ ab h b g V w e [(xb,64, [.int .i64 sk,.int .i64 0,.int .i64 0,.int .i64 0,.int .i64 ss,.int .i64 slo,.int .i64 swd,.slice pi xn ci,.int .i64 vk,.int .i64 op,.int .i64 vhw,.int .i64 vs,.int .i64 vlo,.bool sg,.int .i64 vw,.slice pv vn vc,.slice pa va.len ca,.slice pb bn0 cb,.slice pe en0 ce,.int .i64 sas]),(xp,49, [.int .i64 kd,.int .i64 y1,.int .i64 y2,.int .i64 y3,.slice bp bnn bcp])] (C3) (andT u' TB TE q) wr∧US (λ k=>w.heap.size≤k) wr (usV g5a N) TB∧US (λ k=>w.heap.size≤k) wr (usV g5b N) TE) (λ iv _=>N-(intOf iv).toNat)
        case atStart=>exact ⟨0,rfl,Nat.zero_le _,by rw [andT_zero];exact HS.out.1,HS.out.2.1,HS.out.2.2⟩
        case round =>
         obtain ⟨q,rfl,hqn,hLq,ht1,ht2⟩:=hrel
         by_cases hlt:q<N
         ·have hqq:(q:Int)<(N:Int):=by omega
          have hq0:(0:Int)≤(q:Int):=by omega
          have hqw:IntKind.i64.wrap ((q:Int)+1)=((q+1:Nat):Int):=by rw [i64_of (by have:=HN.out.2;omega)];rfl
          have hal:(andT u' TB TE q).length=N:=by rw [andT_len];exact HTl.out.2.2.2.2
          have haq:(andT u' TB TE q).getD q []=u'.getD q []:=by rw [List.getD,andT_at u' TB TE q (by rw [HTl.out.2.2.2.2];exact hlt)];simp
          obtain ⟨rw0,hrw0⟩:∃ r,u'.getD q []=r:=⟨_,rfl⟩
          obtain ⟨rn,hrn⟩:∃ n,rw0.length=n:=⟨_,rfl⟩
          have hrl:=HE.out.2.2.2.2.2.2.2.2.2.le H.out.2.2.2.2.2.2.1 q
          rw [hrw0,hrn] at hrl
          rw [hrw0] at haq
          have hc1:=hLq.us.row (k:=q) (by rw [hal];exact hlt)
          obtain ⟨pq,cq,hvq⟩:=hLq.us.form q
          rw [haq,hrn] at hvq
          rw [hvq] at hc1
          have hst:LQ ab h b g V w e [(xb,64, [.int .i64 sk,.int .i64 0,.int .i64 0,.int .i64 0,.int .i64 ss,.int .i64 slo,.int .i64 swd,.slice pi xn ci,.int .i64 vk,.int .i64 op,.int .i64 vhw,.int .i64 vs,.int .i64 vlo,.bool sg,.int .i64 vw,.slice pv vn vc,.slice pa va.len ca,.slice pb bn0 cb,.slice pe en0 ce,.int .i64 sas]),(xp,49, [.int .i64 kd,.int .i64 y1,.int .i64 y2,.int .i64 y3,.slice bp bnn bcp])] C3 ((andT u' TB TE q).set q (andR rw0 (TB.getD q []) (TE.getD q []) 0)) wr:=by rw [andR_zero,set_at_self _ _ (by rw [hal];exact hlt) _ haq];exact hLq
          have hfi:(andT u' TB TE q).set q (andR rw0 (TB.getD q []) (TE.getD q []) rn)=andT u' TB TE (q+1):=by rw [andT_succ,hrw0,hrn]
          have HQ:=Lib.hid (And.intro hst (And.intro ht1 (And.intro ht2 (And.intro hfi (And.intro hrn (And.intro hrw0 (And.intro hrl (And.intro hlt (And.intro hal hvq)))))))))
          clear hst ht1 ht2 hfi hrn hrw0 hrl hlt hqn hal haq hLq hvq
          go_wp2_with fail
          go_loopw [116] (λ kv wr=>∃ k:Nat,kv = .int .i64 k∧k≤rn∧LQ ab h b g V w e [(xb,64, [.int .i64 sk,.int .i64 0,.int .i64 0,.int .i64 0,.int .i64 ss,.int .i64 slo,.int .i64 swd,.slice pi xn ci,.int .i64 vk,.int .i64 op,.int .i64 vhw,.int .i64 vs,.int .i64 vlo,.bool sg,.int .i64 vw,.slice pv vn vc,.slice pa va.len ca,.slice pb bn0 cb,.slice pe en0 ce,.int .i64 sas]),(xp,49, [.int .i64 kd,.int .i64 y1,.int .i64 y2,.int .i64 y3,.slice bp bnn bcp])] (C3) ((andT u' TB TE q).set q (andR rw0 (TB.getD q []) (TE.getD q []) k)) wr∧US (λ k=>w.heap.size≤k) wr (usV g5a N) TB∧US (λ k=>w.heap.size≤k) wr (usV g5b N) TE) (λ kv _=>rn-(intOf kv).toNat)
          case atStart=>exact ⟨0,rfl,Nat.zero_le _,HQ.out.1,HQ.out.2.1,HQ.out.2.2.1⟩
          case round =>
           obtain ⟨k,rfl,hkn,hLk,hk1,hk2⟩:=hrel
           clear hc1
           by_cases hlt:k<rn
           ·have hkk:(k:Int)<(rn:Int):=by omega
            have hk0:(0:Int)≤(k:Int):=by omega
            have hkw:IntKind.i64.wrap ((k:Int)+1)=((k+1:Nat):Int):=by rw [i64_of (by have:=HQ.out.2.2.2.2.2.2.1;omega)];rfl
            have hgs:((andT u' TB TE q).set q (andR rw0 (TB.getD q []) (TE.getD q []) k)).getD q []=andR rw0 (TB.getD q []) (TE.getD q []) k:=getD_set_same _ _ _ (by rw [HQ.out.2.2.2.2.2.2.2.2.1];exact HQ.out.2.2.2.2.2.2.2.1)
            have hll:(andR rw0 (TB.getD q []) (TE.getD q []) k).length=rn:=by rw [andR_len];exact HQ.out.2.2.2.2.1
            have hqs:q<((andT u' TB TE q).set q (andR rw0 (TB.getD q []) (TE.getD q []) k)).length:=by rw [List.length_set,HQ.out.2.2.2.2.2.2.2.2.1];exact HQ.out.2.2.2.2.2.2.2.1
            obtain ⟨bs,cs2,hvs,hcell,hfrz,_⟩:=hLk.us.at (k:=q) (i:=k) (by rw [hgs,hll];exact hlt)
            have hc1:=hLk.us.row hqs
            rw [hgs,hll] at hvs
            have hvv:=hvs
            rw [HQ.out.2.2.2.2.2.2.2.2.2] at hvs
            simp only [Value.slice.injEq] at hvs
            obtain ⟨rfl,_,rfl⟩:=hvs
            rw [hvv] at hc1
            obtain ⟨bt,ot,pt,ct,hpt,_,hct,hrt,_⟩:=hk1.get (us_at HTl.out.1 HQ.out.2.2.2.2.2.2.2.1)
            cases hpt
            rw [Nat.zero_add] at hct
            obtain ⟨be,oe,pe2,ce2,hpe,_,hce,hre,_⟩:=hk2.get (us_at HTl.out.2.1 HQ.out.2.2.2.2.2.2.2.1)
            cases hpe
            rw [Nat.zero_add] at hce
            have hlt1:(TB.getD q []).length=rn:=by rw [HTl.out.2.2.1,HQ.out.2.2.2.2.2.1,HQ.out.2.2.2.2.1]
            have hlt2:(TE.getD q []).length=rn:=by rw [HTl.out.2.2.2.1,HQ.out.2.2.2.2.2.1,HQ.out.2.2.2.2.1]
            have hbt:=bools_at (TB.getD q []) k (by rw [hlt1];exact hlt)
            have hbe:=bools_at (TE.getD q []) k (by rw [hlt2];exact hlt)
            rw [hlt1] at hct hrt
            rw [hlt2] at hce hre
            obtain ⟨bt2,ot2,rfl⟩:=hrt.sl hbt
            have ht3:=hrt.ro.cell hbt
            obtain ⟨be2,oe2,rfl⟩:=hre.sl hbe
            have he3:=hre.ro.cell hbe
            have hbit:=hLk.bit (k:=q) (i:=k) hqs (by rw [hgs,hll];exact hlt) (by rw [hgs,hll];exact hvv) ((TB.getD q []).getD k false && (TE.getD q []).getD k false)
            rw [hgs,List.set_set,←andR_succ] at hbit
            have hfv:bs<w.heap.size:=hLk.fl bs (.inr ⟨q,by rw [hvv];rfl⟩)
            have hn1:=hk1.turn (A':=λ k=>w.heap.size≤k) (w':=wr.setCell ⟨bs,k,none⟩ (.bool ((TB.getD q []).getD k false && (TE.getD q []).getD k false))) λ b hb _=>⟨hb,Below.heap_setCell _ _ _ _ (show b≠bs by omega)⟩
            have hn2:=hk2.turn (A':=λ k=>w.heap.size≤k) (w':=wr.setCell ⟨bs,k,none⟩ (.bool ((TB.getD q []).getD k false && (TE.getD q []).getD k false))) λ b hb _=>⟨hb,Below.heap_setCell _ _ _ _ (show b≠bs by omega)⟩
            obtain ⟨vo,hvo⟩:∃ x,(((andT u' TB TE q).set q (andR rw0 (TB.getD q []) (TE.getD q []) k)).getD q []).getD k false=x:=⟨_,rfl⟩
            rw [hvo] at hcell
            generalize (TB.getD q []).getD k false=vt at *
            generalize (TE.getD q []).getD k false=ve at *
            have HB:=Lib.hid (And.intro hbit (And.intro hn1 (And.intro hn2 (And.intro hlt (And.intro hfrz (And.intro hLk.drew hvv))))))
            clear hbit hn1 hn2 hlt hkn hLk hk1 hk2 hgs hll hqs hvv hrt hre hlt1 hlt2 hbt hbe hfv hvo
            go_upto_region 25 with fail
            cases vt
            case false =>
             simp only [Bool.false_and] at HB
             replace hfrz:wr.drew.frozen? _=_:=hfrz
             refine wp_region_still_tail 22 (by kernel_rfl) (by kernel_rfl) ?_
             simp only [List.take_succ_cons,List.take_zero,List.drop_succ_cons,List.drop_zero]
             change wpStill _ _ wr.drew (λ a'=>wpList _ _ _ _ a' wr.drew) _ _
             replace hcell:wr.drew.cell? _=_:=hcell
             replace hc1:wr.drew.cell? _=_:=hc1
             replace hct:wr.drew.cell? _=_:=hct
             replace hce:wr.drew.cell? _=_:=hce
             replace ht3:wr.drew.cell? _=_:=ht3
             replace he3:wr.drew.cell? _=_:=he3
             have HBd:=Lib.hid (And.intro (HB.out.1.below (W':=wr.drew.setCell ⟨bs,k,none⟩ (.bool (false))) ⟨rfl,rfl,rfl,Nat.le_refl _,λ _ _=>rfl⟩) (And.intro (HB.out.2.1.turn (A':=λ k=>w.heap.size≤k) (w':=wr.drew.setCell ⟨bs,k,none⟩ (.bool (false))) λ b hb _=>⟨hb,rfl⟩) (HB.out.2.2.1.turn (A':=λ k=>w.heap.size≤k) (w':=wr.drew.setCell ⟨bs,k,none⟩ (.bool (false))) λ b hb _=>⟨hb,rfl⟩)))
             generalize wr.drew=wz at *
             refine WS.out ?_
             refine ws_step (λ K hK => ?_)
             go_simp
             refine hK _ ?_
             clear hK K
             refine ws_step (λ K hK => ?_)
             go_simp
             refine hK _ ?_
             clear hK K
             refine ws_step (λ K hK => ?_)
             go_simp
             refine hK _ ?_
             clear hK K
             refine ws_step (λ K hK => ?_)
             go_simp
             refine hK _ ?_
             clear hK K
             refine ws_step (λ K hK => ?_)
             go_simp
             refine hK _ ?_
             clear hK K
             refine ws_step (λ K hK => ?_)
             go_simp
             refine hK _ ?_
             clear hK K
             refine ws_step (λ K hK => ?_)
             go_simp
             refine hK _ ?_
             clear hK K
             refine ws_step (λ K hK => ?_)
             go_simp
             refine hK _ ?_
             clear hK K
             refine ws_step (λ K hK => ?_)
             go_simp
             refine hK _ ?_
             clear hK K
             refine ws_step (λ K hK => ?_)
             go_simp
             refine hK _ ?_
             clear hK K
             refine ws_step (λ K hK => ?_)
             go_simp
             refine hK _ ?_
             clear hK K
             refine ws_step (λ K hK => ?_)
             go_simp
             refine hK _ ?_
             clear hK K
             refine ws_step (λ K hK => ?_)
             go_simp
             refine hK _ ?_
             clear hK K
             refine ws_step (λ K hK => ?_)
             go_simp
             refine hK _ ?_
             clear hK K
             refine ws_step (λ K hK => ?_)
             go_simp
             refine hK _ ?_
             clear hK K
             refine ws_step (λ K hK => ?_)
             go_simp
             refine hK _ ?_
             clear hK K
             refine ws_step (λ K hK => ?_)
             go_simp
             refine hK _ ?_
             clear hK K
             refine ws_step (λ K hK => ?_)
             go_simp
             refine hK _ ?_
             clear hK K
             refine ws_step (λ K hK => ?_)
             go_simp
             refine hK _ ?_
             clear hK K
             refine ws_step (λ K hK => ?_)
             go_simp
             refine hK _ ?_
             clear hK K
             refine ws_step (λ K hK => ?_)
             go_simp
             refine hK _ ?_
             clear hK K
             refine ws_step (λ K hK => ?_)
             go_simp
             refine hK _ ?_
             clear hK K
             refine ws_nil ?_
             clear hct hce ht3 he3
             go_wp2_with fail
             go_roundw
             case measure=>simp [intOf];have:=HB.out.2.2.2.1;omega
             case rel=>exact ⟨k+1,by go_num,HB.out.2.2.2.1,HBd.out.1,HBd.out.2.1,HBd.out.2.2⟩
            case true =>
             simp only [Bool.true_and] at HB
             replace hfrz:wr.drew.frozen? _=_:=hfrz
             refine wp_region_still_tail 22 (by kernel_rfl) (by kernel_rfl) ?_
             simp only [List.take_succ_cons,List.take_zero,List.drop_succ_cons,List.drop_zero]
             change wpStill _ _ wr.drew (λ a'=>wpList _ _ _ _ a' wr.drew) _ _
             replace hcell:wr.drew.cell? _=_:=hcell
             replace hc1:wr.drew.cell? _=_:=hc1
             replace hct:wr.drew.cell? _=_:=hct
             replace hce:wr.drew.cell? _=_:=hce
             replace ht3:wr.drew.cell? _=_:=ht3
             replace he3:wr.drew.cell? _=_:=he3
             have HBd:=Lib.hid (And.intro (HB.out.1.below (W':=wr.drew.setCell ⟨bs,k,none⟩ (.bool (ve))) ⟨rfl,rfl,rfl,Nat.le_refl _,λ _ _=>rfl⟩) (And.intro (HB.out.2.1.turn (A':=λ k=>w.heap.size≤k) (w':=wr.drew.setCell ⟨bs,k,none⟩ (.bool (ve))) λ b hb _=>⟨hb,rfl⟩) (HB.out.2.2.1.turn (A':=λ k=>w.heap.size≤k) (w':=wr.drew.setCell ⟨bs,k,none⟩ (.bool (ve))) λ b hb _=>⟨hb,rfl⟩)))
             generalize wr.drew=wz at *
             refine WS.out ?_
             refine ws_step (λ K hK => ?_)
             go_simp
             refine hK _ ?_
             clear hK K
             refine ws_step (λ K hK => ?_)
             go_simp
             refine hK _ ?_
             clear hK K
             refine ws_step (λ K hK => ?_)
             go_simp
             refine hK _ ?_
             clear hK K
             refine ws_step (λ K hK => ?_)
             go_simp
             refine hK _ ?_
             clear hK K
             refine ws_step (λ K hK => ?_)
             go_simp
             refine hK _ ?_
             clear hK K
             refine ws_step (λ K hK => ?_)
             go_simp
             refine hK _ ?_
             clear hK K
             refine ws_step (λ K hK => ?_)
             go_simp
             refine hK _ ?_
             clear hK K
             refine ws_step (λ K hK => ?_)
             go_simp
             refine hK _ ?_
             clear hK K
             refine ws_step (λ K hK => ?_)
             go_simp
             refine hK _ ?_
             clear hK K
             refine ws_step (λ K hK => ?_)
             go_simp
             refine hK _ ?_
             clear hK K
             refine ws_step (λ K hK => ?_)
             go_simp
             refine hK _ ?_
             clear hK K
             refine ws_step (λ K hK => ?_)
             go_simp
             refine hK _ ?_
             clear hK K
             refine ws_step (λ K hK => ?_)
             go_simp
             refine hK _ ?_
             clear hK K
             refine ws_step (λ K hK => ?_)
             go_simp
             refine hK _ ?_
             clear hK K
             refine ws_step (λ K hK => ?_)
             go_simp
             refine hK _ ?_
             clear hK K
             refine ws_step (λ K hK => ?_)
             go_simp
             refine hK _ ?_
             clear hK K
             refine ws_step (λ K hK => ?_)
             go_simp
             refine hK _ ?_
             clear hK K
             refine ws_step (λ K hK => ?_)
             go_simp
             refine hK _ ?_
             clear hK K
             refine ws_step (λ K hK => ?_)
             go_simp
             refine hK _ ?_
             clear hK K
             refine ws_step (λ K hK => ?_)
             go_simp
             refine hK _ ?_
             clear hK K
             refine ws_step (λ K hK => ?_)
             go_simp
             refine hK _ ?_
             clear hK K
             refine ws_step (λ K hK => ?_)
             go_simp
             refine hK _ ?_
             clear hK K
             refine ws_nil ?_
             clear hct hce ht3 he3
             go_wp2_with fail
             go_roundw
             case measure=>simp [intOf];have:=HB.out.2.2.2.1;omega
             case rel=>exact ⟨k+1,by go_num,HB.out.2.2.2.1,HBd.out.1,HBd.out.2.1,HBd.out.2.2⟩
           ·obtain rfl:rn=k:=by omega
            have hkk:¬(rn:Int)<(rn:Int):=by omega
            rw [HQ.out.2.2.2.1] at hLk
            have HK:=Lib.hid (And.intro hLk (And.intro hk1 hk2))
            clear hLk hk1 hk2 hlt hkn
            go_wp2_with fail
            go_roundw
            case measure=>simp [intOf];have:=HQ.out.2.2.2.2.2.2.2.1;omega
            case rel=>exact ⟨q+1,by go_num,HQ.out.2.2.2.2.2.2.2.1,HK.out.1,HK.out.2.1,HK.out.2.2⟩
         ·obtain rfl:N=q:=by omega
          have hqq:¬(N:Int)<(N:Int):=by omega
          rw [HNU.out] at hLq
          have HK:=Lib.hid (hLq.drop 1)
          clear hLq ht1 ht2 hlt hqn
          go_wp2_with fail
          go_roundw
          case measure=>simp [intOf];have:=HE.out.2.2.2.1;omega
          case rel=>exact ⟨i+1,r0,NU,C3,by go_num,by have:=HE.out.2.2.2.2.1;simp only [SL.len] at this;omega,HE.out.2.2.1,HE.out.1.2,HE.out.2.1.2.2.2.2.2,HE.out.2.2.2.2.2.2.2.1,HE.out.2.2.2.2.2.1,by rw [←HC3.out,←HCr.out];simp [HK3.out,and_assoc],HK.out⟩
       ·have hk3i:((sk:Int) == 3)=false:=by simp;omega
        have x7:=(HL2.out.at 0 rfl).cell (i:=7) rfl
        have HK3:=Lib.hid hk3
        clear hk3
        by_cases hk1:sk=1∧xn=0
        ·have hs1i:((sk:Int) == 1)=true:=by rw [hk1.1];rfl
         have hxi:((xn:Int) == 0)=true:=by rw [hk1.2];rfl
         have HK1:=Lib.hid hk1
         clear hk1
         have HNU:Hid (u'.set ss (orBits (u'.getD ss []).length (u'.getD ss []) slo swd)=NU):=Lib.hid (by have:=HE.out.2.2.2.2.2.2.2.2.1;rw [if_neg HK3.out,if_pos HK1.out] at this;exact this)
         have x5:=(HL2.out.at 0 rfl).cell (i:=5) rfl
         have hss:ss<l.length:=HV.out.2.2.2.2.2.2.2.2.2.2.2.1
         have hb12:=HV.out.2.2.2.2.2.2.2.2.2.2.2.2.1
         have hb13:=HV.out.2.2.2.2.2.2.2.2.2.2.2.2.2.1
         dsimp only at hb12 hb13
         have hul:u'.length=N:=by rw [HE.out.2.2.2.2.2.2.2.2.2.1,sizes,List.length_map];exact HN.out.1
         have hrl:=HE.out.2.2.2.2.2.2.2.2.2.le H.out.2.2.2.2.2.2.1 ss
         obtain ⟨rw0,hrw0⟩:∃ r,u'.getD ss []=r:=⟨_,rfl⟩
         obtain ⟨rn,hrn⟩:∃ n,rw0.length=n:=⟨_,rfl⟩
         rw [hrw0,hrn] at hrl HNU
         have hz:rowTo rw0 rn slo swd 0=rw0:=by
          rw [rowTo_zero _ _ _ _ (.inr hrn)]
          split
          ·rename_i e9;subst e9;rw [←hrn];rfl
          ·rfl
         have hst:LQ ab h b g V w e [(xb,64, [.int .i64 sk,.int .i64 0,.int .i64 0,.int .i64 0,.int .i64 ss,.int .i64 slo,.int .i64 swd,.slice pi xn ci,.int .i64 vk,.int .i64 op,.int .i64 vhw,.int .i64 vs,.int .i64 vlo,.bool sg,.int .i64 vw,.slice pv vn vc,.slice pa va.len ca,.slice pb bn0 cb,.slice pe en0 ce,.int .i64 sas]),(xp,49, [.int .i64 kd,.int .i64 y1,.int .i64 y2,.int .i64 y3,.slice bp bnn bcp])] C2 (u'.set ss (rowTo rw0 rn slo swd slo)) wr:=by rw [rowTo_low _ _ _ _ _ (Nat.le_refl _),hz,set_at_self _ _ (by rw [hul,←HN.out.1];exact hss) _ hrw0];exact HL2.out
         have HQ:=Lib.hid (And.intro hst (And.intro hrn (And.intro hrl (And.intro hb12 (And.intro hb13 (And.intro hul (show ss<N by rw [←HN.out.1];exact hss)))))))
         clear hst hrn hrl hb12 hb13 hul hss hz hrw0
         have hlw:IntKind.i64.wrap ((slo:Int)+(swd:Int))=((slo+swd:Nat):Int):=by rw [i64_of (by have:=HQ.out.2.2.2.1;have:=HQ.out.2.2.2.2.1;omega)];rfl
         have hmx:max (slo:Int) 0=(slo:Int):=by omega
         go_wp2_with fail
         go_loopw [19] (λ kv wr=>∃ k:Nat,kv = .int .i64 k∧slo≤k∧(k=slo∨k≤rn)∧LQ ab h b g V w e [(xb,64, [.int .i64 sk,.int .i64 0,.int .i64 0,.int .i64 0,.int .i64 ss,.int .i64 slo,.int .i64 swd,.slice pi xn ci,.int .i64 vk,.int .i64 op,.int .i64 vhw,.int .i64 vs,.int .i64 vlo,.bool sg,.int .i64 vw,.slice pv vn vc,.slice pa va.len ca,.slice pb bn0 cb,.slice pe en0 ce,.int .i64 sas]),(xp,49, [.int .i64 kd,.int .i64 y1,.int .i64 y2,.int .i64 y3,.slice bp bnn bcp])] (C2) (u'.set ss (rowTo rw0 rn slo swd k)) wr) (λ kv _=>rn-(intOf kv).toNat)
         case atStart=>exact ⟨slo,rfl,Nat.le_refl _,.inl rfl,HQ.out.1⟩
         case round =>
          obtain ⟨k,rfl,hkl,hkr,hLk⟩:=hrel
          clear x0 x5 x7
          have hgs:(u'.set ss (rowTo rw0 rn slo swd k)).getD ss []=rowTo rw0 rn slo swd k:=getD_set_same _ _ _ (by rw [HQ.out.2.2.2.2.2.1];exact HQ.out.2.2.2.2.2.2)
          have hll:(rowTo rw0 rn slo swd k).length=rn:=rowTo_len _ _ _ _ _
          have hqs:ss<(u'.set ss (rowTo rw0 rn slo swd k)).length:=by rw [List.length_set,HQ.out.2.2.2.2.2.1];exact HQ.out.2.2.2.2.2.2
          have hc1:=hLk.us.row hqs
          obtain ⟨pq,cq,hvq⟩:=hLk.us.form ss
          rw [hgs,hll] at hvq
          rw [hvq] at hc1
          have x4:=(hLk.at 0 rfl).cell (i:=4) rfl
          have x5:=(hLk.at 0 rfl).cell (i:=5) rfl
          have x6:=(hLk.at 0 rfl).cell (i:=6) rfl
          have hs1:(ss:Int)<(N:Int):=by have:=HQ.out.2.2.2.2.2.2;omega
          have hs0:(0:Int)≤(ss:Int):=by omega
          by_cases hlt:k<slo+swd∧k<rn
          ·have hm:(k:Int)<min ((slo+swd:Nat):Int) (rn:Int):=by omega
           have hk1:(k:Int)<(rn:Int):=by omega
           have hk0:(0:Int)≤(k:Int):=by omega
           have hkw:IntKind.i64.wrap ((k:Int)+1)=((k+1:Nat):Int):=by rw [i64_of (by have:=HQ.out.2.2.1;omega)];rfl
           obtain ⟨bs,cs2,hvs,hcell,hfrz,_⟩:=hLk.us.at (k:=ss) (i:=k) (by rw [hgs,hll];exact hlt.2)
           rw [hgs,hll,hvq] at hvs
           simp only [Value.slice.injEq] at hvs
           obtain ⟨rfl,_,rfl⟩:=hvs
           have hbit:=hLk.below (W':=wr.drew) (Below.refl _ _).drew |>.bit (k:=ss) (i:=k) hqs (by rw [hgs,hll];exact hlt.2) (by rw [hgs,hll];exact hvq) true
           rw [hgs,List.set_set,←rowTo_step _ _ _ _ _ ⟨hkl,hlt.1⟩] at hbit
           have HB:=Lib.hid (And.intro hbit (And.intro hkl hlt))
           replace hcell:wr.drew.cell? _=_:=hcell
           replace hfrz:wr.drew.frozen? _=_:=hfrz
           clear hbit hkl hkr hlt hLk hgs hll hqs hvq
           go_upto_region 30 with fail
           refine wp_region_still_tail 16 (by kernel_rfl) (by kernel_rfl) ?_
           simp only [List.take_succ_cons,List.take_zero,List.drop_succ_cons,List.drop_zero]
           change wpStill _ _ wr.drew (λ a'=>wpList _ _ _ _ a' wr.drew) _ _
           replace hc1:wr.drew.cell? _=_:=hc1
           replace x4:wr.drew.cell? _=_:=x4
           replace x5:wr.drew.cell? _=_:=x5
           replace x6:wr.drew.cell? _=_:=x6
           generalize wr.drew=wz at *
           refine WS.out ?_
           iterate 16 (refine ws_step (λ K hK => ?_);go_simp;refine hK _ ?_;clear hK K)
           refine ws_nil ?_
           go_wp2_with fail
           go_roundw
           case measure=>simp [intOf];have:=HB.out.2.2.2;omega
           case rel=>exact ⟨k+1,by go_num,by have:=HB.out.2.1;omega,.inr HB.out.2.2.2,HB.out.1⟩
          ·have hm:¬(k:Int)<min ((slo+swd:Nat):Int) (rn:Int):=by omega
           have hfin:rowTo rw0 rn slo swd k=orBits rn rw0 slo swd:=rowTo_high _ _ _ _ _ (by omega)
           rw [hfin,HNU.out] at hLk
           have HK:=Lib.hid ((hLk.drop 1).drew)
           clear hLk hgs hll hqs hvq hkl hkr hlt hfin
           go_upto_region 30 with fail
           refine wp_region_still_tail 16 (by kernel_rfl) (by kernel_rfl) ?_
           simp only [List.take_succ_cons,List.take_zero,List.drop_succ_cons,List.drop_zero]
           change wpStill _ _ wr.drew (λ a'=>wpList _ _ _ _ a' wr.drew) _ _
           replace hc1:wr.drew.cell? _=_:=hc1
           replace x4:wr.drew.cell? _=_:=x4
           replace x5:wr.drew.cell? _=_:=x5
           replace x6:wr.drew.cell? _=_:=x6
           generalize wr.drew=wz at *
           refine WS.out ?_
           iterate 16 (refine ws_step (λ K hK => ?_);go_simp;refine hK _ ?_;clear hK K)
           refine ws_nil ?_
           go_wp2_with fail
           all_goals
            go_roundw
            case measure=>simp [intOf];have:=HE.out.2.2.2.1;omega
            case rel=>exact ⟨i+1,r0,NU,C2,by go_num,by have:=HE.out.2.2.2.2.1;simp only [SL.len] at this;omega,HE.out.2.2.1,HE.out.1.2,HE.out.2.1.2.2.2.2.2,HE.out.2.2.2.2.2.2.2.1,HE.out.2.2.2.2.2.1,by rw [←HCr.out];simp [HK3.out],HK.out⟩
        ·have HNU:Hid (u'=NU):=Lib.hid (by have:=HE.out.2.2.2.2.2.2.2.2.1;rw [if_neg HK3.out,if_neg hk1] at this;exact this)
         have hfin:=HL2.out.drop 1
         rw [HNU.out] at hfin
         have HK:=Lib.hid hfin
         clear hfin
         have hcl:((C2∧latC l r0 NU)↔RC):=by rw [←HCr.out];simp [HK3.out]
         have HCl:=Lib.hid hcl
         clear hcl
         by_cases hs1:sk=1
         ·have hs1i:((sk:Int) == 1)=true:=by rw [hs1];rfl
          have hxi:((xn:Int) == 0)=false:=by simp;omega
          clear hs1 hk1
          go_wp2_with fail
          go_roundw
          case measure=>simp [intOf];have:=HE.out.2.2.2.1;omega
          case rel=>exact ⟨i+1,r0,NU,C2,by go_num,by have:=HE.out.2.2.2.2.1;simp only [SL.len] at this;omega,HE.out.2.2.1,HE.out.1.2,HE.out.2.1.2.2.2.2.2,HE.out.2.2.2.2.2.2.2.1,HE.out.2.2.2.2.2.1,HCl.out,HK.out⟩
         ·have hs1i:((sk:Int) == 1)=false:=by simp;omega
          clear hs1 hk1
          go_wp2_with fail
          go_roundw
          case measure=>simp [intOf];have:=HE.out.2.2.2.1;omega
          case rel=>exact ⟨i+1,r0,NU,C2,by go_num,by have:=HE.out.2.2.2.2.1;simp only [SL.len] at this;omega,HE.out.2.2.1,HE.out.1.2,HE.out.2.1.2.2.2.2.2,HE.out.2.2.2.2.2.2.2.1,HE.out.2.2.2.2.2.1,HCl.out,HK.out⟩
  ·obtain rfl:r = .nil:=by
    cases r with
    | nil=>rfl
    | cons h0 b0 e0 r0=>simp only [SL.len] at hil;omega
   have hii:¬(i:Int)<(ln:Int):=by simp only [SL.len] at hil;omega
   have hue:u'=RS:=hRr
   subst hue
   have hce:(C'↔RC):=by rw [←hCr];simp [latC]
   have HK:=Lib.hid (hLr.iff hce)
   clear hlt hil hSr hAl hwf hwu hRr hCr hLr hce
   go_wp2_with fail
   go_ret
   exact ⟨rfl,HK.out.us,HK.out.an,HK.out.up⟩
theorem lat_all {base ab:Nat} {h:AHd} {l:List Sg} {sp:Option Addr} {sc kd y1 y2 y3:Nat} {bp:Option Addr} {bnn bcp:Nat} (hba:base≤ab) (hh:h.sg = .slice sp l.length sc):∀ {t:SL},t.wf l.length→AllS (λ _ b e=>LatK base ab h l sp sc kd y1 y2 y3 bp bnn bcp b∧LatK base ab h l sp sc kd y1 y2 y3 bp bnn bcp e) t
 | .nil,_=>trivial
 | .cons x b e r,hw=>⟨⟨lat_step hba hh hw.2.2.2.1 hw.2.1 (lat_all hba hh hw.2.2.2.1),lat_step hba hh hw.2.2.2.2.1 hw.2.2.1 (lat_all hba hh hw.2.2.2.2.1)⟩,lat_all hba hh hw.2.2.2.2.2⟩
theorem lat_any {base ab:Nat} {h:AHd} {l:List Sg} {sp:Option Addr} {sc kd y1 y2 y3:Nat} {bp:Option Addr} {bnn bcp:Nat} (hba:base≤ab) (hh:h.sg = .slice sp l.length sc) {t:SL} (hw:t.wf l.length) (hl:t.len≤1000000):LatK base ab h l sp sc kd y1 y2 y3 bp bnn bcp t:=lat_step hba hh hw hl (lat_all hba hh hw)
end Go.Proofs.Ytlklleaocbnbcaa
