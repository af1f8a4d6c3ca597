import Derived.Test.YtlklleaocbnbcaaZ16
namespace Go.Proofs.Ytlklleaocbnbcaa
set_option linter.unusedVariables false
open Go.RowKit Go.Sort
def XR (h:TH) (a:TL) (w:World) (e:Ending) (w':World):Prop:=∃ cs,e = .returned (.agg cs.toArray)∧TF (From w.heap.size) w' (.cons h a .nil) cs∧Below w.heap.size w w'
def XC (h:TH) (a:TL):Prop:=∀ (A:Nat→Prop) (w:World) (cs:List Value),TR A w (.cons h a .nil) cs→Calls Try.prog 38 #[.agg cs.toArray] w (XR h a w)
theorem infoEx:(Try.prog.info? 62).map (λ i=>(i.zero,i.size,i.bytes))=some (some (.agg #[.int .i64 0,.int .i64 0,.int .i64 0,.int .i64 0,.int .i64 0,.bool false,.int .i64 0,.slice none 0 0,.slice none 0 0]),9,104):=by kernel_rfl
theorem TExs:SlTy Try.prog 55 62 9 104 (.agg #[.int .i64 0,.int .i64 0,.int .i64 0,.int .i64 0,.int .i64 0,.bool false,.int .i64 0,.slice none 0 0,.slice none 0 0]):=SlTy.of Try.underlying55 infoEx rfl (by decide)
theorem tf_form {A:Nat→Prop} {w:World} {h:TH} {a:TL} {cs:List Value} (ht:TF A w (.cons h a .nil) cs):∃ (op:Int) (sg:Bool) (vw:Int) (p:Option Addr) (n c:Nat) (pa:Option Addr) (ca:Nat),cs = [.int .i64 (h.k:Nat),.int .i64 op,.int .i64 (h.w:Nat),.int .i64 (h.s:Nat),.int .i64 (h.lo:Nat),.bool sg,.int .i64 vw,.slice p n c,.slice pa a.len ca]:=by
 obtain ⟨hc,av,ac,cs',e,hl,⟨op,sg,vw,p,n,c,rfl⟩,hr,ha,hrr⟩:=ht
 have:cs' = []:=hrr
 subst this
 obtain ⟨pa,ca,rfl,_⟩:=hr.form
 exact ⟨op,sg,vw,p,n,c,pa,ca,by rw [e,List.append_nil];rfl⟩
theorem tf_mk {A:Nat→Prop} {w:World} {h:TH} {a:TL} {op vw:Int} {sg:Bool} {p:Option Addr} {n c:Nat} {av:Value} {ac:List Value} (hr:ROA A w av 9 a.len ac) (ha:TF A w a ac):TF A w (.cons h a .nil) [.int .i64 (h.k:Nat),.int .i64 op,.int .i64 (h.w:Nat),.int .i64 (h.s:Nat),.int .i64 (h.lo:Nat),.bool sg,.int .i64 vw,.slice p n c,av] :=
 ⟨_,av,ac, [],(List.append_nil _).symm,rfl,⟨op,sg,vw,p,n,c,rfl⟩,hr,ha,rfl⟩
theorem TL.app_assoc:∀ (t:TL) (h:TH) (a r:TL),(t.app (.cons h a .nil)).app r=t.app (.cons h a r)
 | .nil,_,_,_=>rfl
 | .cons h' a' t,h,a,r=>by simp only [TL.app,TL.app_assoc t h a r]
theorem TL.app_nil:∀ (t:TL),t.app .nil=t
 | .nil=>rfl
 | .cons h a t=>by simp only [TL.app,TL.app_nil t]
set_option maxRecDepth 100000 in
set_option maxHeartbeats 8000000 in
theorem x_step {h:TH} {a:TL} (hal:a.len≤1000) (ih:AllT XC a):XC h a:=λ A w cs ht0=>by
 have ht:=ht0.turn ER.stay (A':=λ k=>k<w.heap.size) (w':=w) λ b _ hl=>⟨hl,rfl⟩
 obtain ⟨op,sg,val,vl,av,ac,rfl,hv,hvl,hr,ha⟩:=tr_one ht
 obtain ⟨pv,cv,rfl,hvc⟩:=hv.form
 obtain ⟨pa,ca,rfl,hac⟩:=hr.form
 obtain ⟨k,wd,s,lo⟩:=h
 dsimp only [tcells]
 obtain ⟨an,han⟩:∃ n,a.len=n:=⟨_,rfl⟩
 obtain ⟨vn,hvn⟩:∃ n,vl.length=n:=⟨_,rfl⟩
 have HV:Hid (ROA (λ k=>k<w.heap.size) w (.slice pv vn cv) 1 vl.length (bools vl)∧vl.length≤128∧vl.length=vn):=Lib.hid ⟨by rw [←hvn];exact hv,hvl,hvn⟩
 have HA:Hid (ROA (λ k=>k<w.heap.size) w (.slice pa an ca) 8 an ac∧TR (λ k=>k<w.heap.size) w a ac∧a.len=an∧an≤1000):=Lib.hid ⟨by rw [←han];exact hr,ha,han,by rw [←han];exact hal⟩
 have HI:=Lib.hid ih
 rw [hvn,han]
 clear ht ht0 hv hvl hr ha hal ih han hvn hvc hac
 go_enter Try.func38,Try.ntmps38
 go_upto_region 1 with fail
 have hT:=((Tr.nil w).lay 76 [.int .i64 k,.int .i64 op,.int .i64 wd,.int .i64 s,.int .i64 lo,.bool sg,.slice pv vn cv,.slice pa an ca]).lay 62 [.int .i64 0,.int .i64 0,.int .i64 0,.int .i64 0,.int .i64 0,.bool false,.int .i64 0,.slice none 0 0,.slice none 0 0]
 rw [World.size_alloc] at hT
 have HT:=Lib.hid hT
 clear hT
 have e0:=(HT.out.at 1 rfl).cell (i:=0) rfl
 have e1:=(HT.out.at 1 rfl).cell (i:=1) rfl
 have e2:=(HT.out.at 1 rfl).cell (i:=2) rfl
 have e3:=(HT.out.at 1 rfl).cell (i:=3) rfl
 have e4:=(HT.out.at 1 rfl).cell (i:=4) rfl
 have e5:=(HT.out.at 1 rfl).cell (i:=5) rfl
 go_upto_region 2 with fail
 have hT:=HT.out.lay 62 [.int .i64 k,.int .i64 op,.int .i64 wd,.int .i64 s,.int .i64 lo,.bool sg,.int .i64 0,.slice none 0 0,.slice none 0 0]
 simp only [World.size_alloc] at hT
 have HT3:=Lib.hid hT
 change Hid (Tr w _ (((w.alloc (.cells #[.int .i64 k,.int .i64 op,.int .i64 wd,.int .i64 s,.int .i64 lo,.bool sg,.slice pv vn cv,.slice pa an ca] 76)).alloc (.cells #[.int .i64 0,.int .i64 0,.int .i64 0,.int .i64 0,.int .i64 0,.bool false,.int .i64 0,.slice none 0 0,.slice none 0 0] 62)).alloc (.cells #[.int .i64 k,.int .i64 op,.int .i64 wd,.int .i64 s,.int .i64 lo,.bool sg,.int .i64 0,.slice none 0 0,.slice none 0 0] 62))) at HT3
 generalize ((w.alloc (.cells #[.int .i64 k,.int .i64 op,.int .i64 wd,.int .i64 s,.int .i64 lo,.bool sg,.slice pv vn cv,.slice pa an ca] 76)).alloc (.cells #[.int .i64 0,.int .i64 0,.int .i64 0,.int .i64 0,.int .i64 0,.bool false,.int .i64 0,.slice none 0 0,.slice none 0 0] 62)).alloc (.cells #[.int .i64 k,.int .i64 op,.int .i64 wd,.int .i64 s,.int .i64 lo,.bool sg,.int .i64 0,.slice none 0 0,.slice none 0 0] 62)=w3 at *
 clear hT e0 e1 e2 e3 e4 e5 HT
 have e6:=(HT3.out.at 2 rfl).cell (i:=6) rfl
 go_upto_if 22 with fail
 go_cut [] from 19 to 27 (λ wx=>∃ (vw:Int) (vp:Option Addr) (vk vc:Nat),Tr w [(w.heap.size+1+1,62, [.int .i64 k,.int .i64 op,.int .i64 wd,.int .i64 s,.int .i64 lo,.bool sg,.int .i64 vw,.slice vp vk vc,.slice none 0 0]),(w.heap.size+1,62, [.int .i64 0,.int .i64 0,.int .i64 0,.int .i64 0,.int .i64 0,.bool false,.int .i64 0,.slice none 0 0,.slice none 0 0]),(w.heap.size,76, [.int .i64 k,.int .i64 op,.int .i64 wd,.int .i64 s,.int .i64 lo,.bool sg,.slice pv vn cv,.slice pa an ca])] wx)
 case first =>
  by_cases hvn:0<vn
  ·have hvi:(0:Int)<(vn:Int):=by omega
   have HVn:=Lib.hid hvn
   clear hvn
   have HO:=Lib.hid (own_any ((HV.out.1.turn (A':=λ _=>True) (w':=w3) λ b hb _=>⟨trivial,HT3.out.bel.block b hb⟩).len1 HV.out.2.2) (by rw [HV.out.2.2];exact HVn.out) HV.out.2.1)
   rw [HV.out.2.2] at HO
   have o6:=(HT3.out.at 0 rfl).cell (i:=6) rfl
   have o6f:=(HT3.out.at 0 rfl).frz 6
   have o7:=(HT3.out.at 0 rfl).cell (i:=7) rfl
   have o7f:=(HT3.out.at 0 rfl).frz 7
   go_wp2_with fail
   refine HO.out.mono ?_;rintro e w4 ⟨vp,vk,vc,rfl,hb4⟩
   have HT4:=Lib.hid (HT3.out.below hb4)
   have o6:=(HT4.out.at 0 rfl).cell (i:=6) rfl
   have o6f:=(HT4.out.at 0 rfl).frz 6
   have o7:=(HT4.out.at 0 rfl).cell (i:=7) rfl
   have o7f:=(HT4.out.at 0 rfl).frz 7
   go_wp2_with fail
   go_meet
   exact ⟨vn,vp,vk,vc,(HT4.out.cell 0 rfl 6 (.int .i64 (vn:Nat))).cell 0 rfl 7 (.slice vp vk vc)⟩
  ·have hvi:¬(0:Int)<(vn:Int):=by omega
   clear hvn
   go_wp2_with fail
   go_meet
   exact ⟨0,none,0,0,HT3.out⟩
 case rest =>
  obtain ⟨vw,vp,vk,vc,hT⟩:=hcut
  have HTc:=Lib.hid hT
  clear hT HT3 e6
  have e7:=(HTc.out.at 2 rfl).cell (i:=7) rfl
  go_wp2_with fail
  go_loopw [30] (λ iv wr=>∃ (i:Nat) (t r:TL) (v:Value) (oc:List Value),iv = .int .i64 (i:Nat)∧t.len=i∧t.app r=a∧AllT XC r∧TR (λ k=>k<w.heap.size) w r (ac.drop (i*8))∧Out 62 9 (λ A w=>TF A w t oc) w wr [(w.heap.size+1+1,62, [.int .i64 k,.int .i64 op,.int .i64 wd,.int .i64 s,.int .i64 lo,.bool sg,.int .i64 vw,.slice vp vk vc,v]),(w.heap.size+1,62, [.int .i64 0,.int .i64 0,.int .i64 0,.int .i64 0,.int .i64 0,.bool false,.int .i64 0,.slice none 0 0,.slice none 0 0]),(w.heap.size,76, [.int .i64 k,.int .i64 op,.int .i64 wd,.int .i64 s,.int .i64 lo,.bool sg,.slice pv vn cv,.slice pa an ca])] v i oc) (λ iv _=>an-(intOf iv).toNat)
  case atStart=>exact ⟨0,.nil,a,.slice none 0 0, [],rfl,rfl,rfl,HI.out,by simpa using HA.out.2.1,.start (MSt.tf _ _) HTc.out rfl⟩
  case round =>
   obtain ⟨i,t,r,v,oc,rfl,hti,htr,hAl,hTr,hO⟩:=hrel
   obtain ⟨vop,voc,eb9⟩:∃ p c,v = .slice p i c:=ownsRow_form hO.own
   subst eb9
   have HO:=Lib.hid hO
   have HL:=Lib.hid (And.intro hti htr)
   have hln:i+r.len=an:=by have h:=HA.out.2.2.1;rw [←htr,TL.app_len] at h;omega
   clear hO
   by_cases hlt:i<an
   ·obtain ⟨h0,b0,r0,rfl⟩:∃ h0 b0 r0,r = .cons h0 b0 r0:=by
     cases r with
     | nil=>simp only [TL.len] at hln;omega
     | cons h0 b0 r0=>exact ⟨h0,b0,r0,rfl⟩
    obtain ⟨op0,sg0,val0,vl0,av0,bc0,hat,hv0,hr0,_,hone,hrest⟩:=tr_at hTr
    obtain ⟨pv0,cv0,rfl,_⟩:=hv0.form
    obtain ⟨pa0,ca0,rfl,_⟩:=hr0.form
    have hra:RO wr (.slice pa an ca) 8 an ac:=(HA.out.1.turn (A':=λ _=>True) (w':=wr) λ b hb _=>⟨trivial,HO.out.bel.block b hb⟩).ro
    obtain ⟨ab,ao,rfl⟩:=hra.sl (hat 0 (by omega))
    have c0:=hra.cell (hat 0 (by omega))
    have c1:=hra.cell (hat 1 (by omega))
    have c2:=hra.cell (hat 2 (by omega))
    have c3:=hra.cell (hat 3 (by omega))
    have c4:=hra.cell (hat 4 (by omega))
    have c5:=hra.cell (hat 5 (by omega))
    have c6:=hra.cell (hat 6 (by omega))
    have c7:=hra.cell (hat 7 (by omega))
    rw [←Nat.add_assoc] at c1 c2 c3 c4 c5 c6 c7
    rw [Nat.add_zero] at c0
    obtain ⟨k0,hw0,s0,lo0⟩:=h0
    obtain ⟨vn0,hvn0⟩:∃ n,vl0.length=n:=⟨_,rfl⟩
    obtain ⟨an0,han0⟩:∃ n,b0.len=n:=⟨_,rfl⟩
    rw [hvn0,han0] at hone hat
    rw [hvn0] at c6
    rw [han0] at c7
    dsimp only [tcells] at c0 c1 c2 c3 c4 c5 c6 c7 hone
    have hii:(i:Int)<(an:Int):=by omega
    have hi0:(0:Int)≤(i:Int):=by omega
    have hiw:IntKind.i64.wrap ((i:Int)+1)=((i+1:Nat):Int):=by rw [i64_of (by have:=HA.out.2.2.2;omega)];rfl
    have HE0:=Lib.hid (And.intro hAl (And.intro hone (And.intro hrest hlt)))
    clear hat hv0 hr0 hone hrest hra hTr hAl hti htr hln hlt hvn0 han0
    go_upto_region 7 with fail
    have HO5:=Lib.hid (HO.out.lay (MSt.tf _ _) 76 [.int .i64 k0,.int .i64 op0,.int .i64 hw0,.int .i64 s0,.int .i64 lo0,.bool sg0,.slice pv0 vn0 cv0,.slice pa0 an0 ca0])
    change Hid (Out _ _ _ w (wr.alloc (.cells #[.int .i64 k0,.int .i64 op0,.int .i64 hw0,.int .i64 s0,.int .i64 lo0,.bool sg0,.slice pv0 vn0 cv0,.slice pa0 an0 ca0] 76)) _ _ _ _) at HO5
    obtain ⟨xb,hxb⟩:∃ b,wr.heap.size=b:=⟨_,rfl⟩
    rw [hxb] at HO5 ⊢
    generalize wr.alloc (.cells #[.int .i64 k0,.int .i64 op0,.int .i64 hw0,.int .i64 s0,.int .i64 lo0,.bool sg0,.slice pv0 vn0 cv0,.slice pa0 an0 ca0] 76)=w5 at *
    clear hxb c0 c1 c2 c3 c4 c5 c6 c7 e7
    have HTr:=Lib.hid (Tr.nil w5)
    have p8:=(HO5.out.at 1 rfl).cell (i:=8) rfl
    have x0:=(HO5.out.at 0 rfl).cell (i:=0) rfl
    have x1:=(HO5.out.at 0 rfl).cell (i:=1) rfl
    have x2:=(HO5.out.at 0 rfl).cell (i:=2) rfl
    have x3:=(HO5.out.at 0 rfl).cell (i:=3) rfl
    have x4:=(HO5.out.at 0 rfl).cell (i:=4) rfl
    have x5:=(HO5.out.at 0 rfl).cell (i:=5) rfl
    have x6:=(HO5.out.at 0 rfl).cell (i:=6) rfl
    have x7:=(HO5.out.at 0 rfl).cell (i:=7) rfl
    refine wp_region_webCR (w0:=w5) [.known (.pointer (some ⟨w.heap.size+1+1,8,none⟩)),.known (.slice vop i voc),.known (.agg #[.int .i64 k0,.int .i64 op0,.int .i64 hw0,.int .i64 s0,.int .i64 lo0,.bool sg0,.slice pv0 vn0 cv0,.slice pa0 an0 ca0]),.rel (λ v W=>∃ (op1:Int) (sg1:Bool) (vw1:Int) (p1:Option Addr) (n1 c1:Nat) (pa1:Option Addr) (ca1:Nat),v = .agg #[.int .i64 k0,.int .i64 op1,.int .i64 hw0,.int .i64 s0,.int .i64 lo0,.bool sg1,.int .i64 vw1,.slice p1 n1 c1,.slice pa1 b0.len ca1]∧TF (From w5.heap.size) W (.cons ⟨k0,hw0,s0,lo0⟩ b0 .nil) [.int .i64 k0,.int .i64 op1,.int .i64 hw0,.int .i64 s0,.int .i64 lo0,.bool sg1,.int .i64 vw1,.slice p1 n1 c1,.slice pa1 b0.len ca1]) (λ _ => []),.rel (λ v W=>∃ (L:Nat) (op1:Int) (sg1:Bool) (vw1:Int) (p1:Option Addr) (n1 c1:Nat) (pa1:Option Addr) (ca1:Nat),v = .slice (some ⟨L,0,none⟩) 1 1∧Blk W L 62 [.int .i64 k0,.int .i64 op1,.int .i64 hw0,.int .i64 s0,.int .i64 lo0,.bool sg1,.int .i64 vw1,.slice p1 n1 c1,.slice pa1 b0.len ca1]∧TF (From w5.heap.size) W (.cons ⟨k0,hw0,s0,lo0⟩ b0 .nil) [.int .i64 k0,.int .i64 op1,.int .i64 hw0,.int .i64 s0,.int .i64 lo0,.bool sg1,.int .i64 vw1,.slice p1 n1 c1,.slice pa1 b0.len ca1]) (λ _ => [])] [1,1,1,1,1] [] 39 3 #[true,true,true,true,true,false,false,false] (by kernel_rfl) (by kernel_rfl) rfl rfl rfl (Nat.le_of_ble_eq_true rfl) ⟨Sp.Mono.known,Sp.Mono.known,Sp.Mono.known,(λ _ _ _ hb ⟨op1,sg1,vw1,p1,n1,c1,pa1,ca1,h1,h2⟩=>⟨op1,sg1,vw1,p1,n1,c1,pa1,ca1,h1,MSt.tf _ _ _ _ _ _ (λ b hb1 hb2=>⟨hb1,hb.block b hb2⟩) h2⟩),(λ _ _ _ hb ⟨L,op1,sg1,vw1,p1,n1,c1,pa1,ca1,h1,h3,h2⟩=>⟨L,op1,sg1,vw1,p1,n1,c1,pa1,ca1,h1,h3.next hb,MSt.tf _ _ _ _ _ _ (λ b hb1 hb2=>⟨hb1,hb.block b hb2⟩) h2⟩),trivial⟩ HTr.out.drew (λ _ _ _ _ _ h=>h) (A := ?_) ?_ ?_ ?_
    rotate_left
    ·intro u
     simp only [fillC,Sp.val,Nat.reduceBEq,cond_false,Act.put,List.setIfInBounds_toArray,List.set_cons_zero,List.set_cons_succ]
     rfl
    iterate 3 (refine ob_yes (web_op (o:=_) rfl (λ u W hT hd Q K hK => ?_)) ?_;· (have cc0:=aft p8 hT.bel;have cc1:=aft x0 hT.bel;have cc2:=aft x1 hT.bel;have cc3:=aft x2 hT.bel;have cc4:=aft x3 hT.bel;have cc5:=aft x4 hT.bel;have cc6:=aft x5 hT.bel;have cc7:=aft x6 hT.bel;have cc8:=aft x7 hT.bel;go_simp;exact hK.out _ _ (Below.refl _ _) rfl (λ p hp=>by cases hp) List.nodup_nil))
    refine ob_yes (web_op (o:=_) rfl (λ u W hT hd Q K hK => ?_)) ?_
    ·(try simp only [Act.put,List.setIfInBounds_toArray,List.set_cons_zero,List.set_cons_succ] at hK)
     have cc0:=aft p8 hT.bel
     have cc1:=aft x0 hT.bel
     have cc2:=aft x1 hT.bel
     have cc3:=aft x2 hT.bel
     have cc4:=aft x3 hT.bel
     have cc5:=aft x4 hT.bel
     have cc6:=aft x5 hT.bel
     have cc7:=aft x6 hT.bel
     have cc8:=aft x7 hT.bel
     go_simp
     refine (HE0.out.1.1 _ _ _ ((MSt.tr _ _) _ (λ _=>True) _ W (λ b hb _=>⟨trivial,(Below.next HO5.out.bel hT.bel).block b hb⟩) HE0.out.2.1)).mono ?_;rintro e w6 ⟨fc,rfl,hf,hb6⟩
     obtain ⟨op1,sg1,vw1,p1,n1,c1,pa1,ca1,rfl⟩:=tf_form hf
     exact hK.out _ _ hb6 ⟨op1,sg1,vw1,p1,n1,c1,pa1,ca1,rfl,(MSt.tf _ _).mono (λ b hb=>Nat.le_trans hT.bel.size hb) hf⟩ (λ p hp=>by cases hp) List.nodup_nil
    refine ob_yes (web_op (o:=_) rfl (λ u W hT hd Q K hK => ?_)) ?_
    ·have d3:=hd 3 (by kernel_rfl)
     generalize u 3=x3 at *
     obtain ⟨op1,sg1,vw1,p1,n1,c1,pa1,ca1,rfl,hF3⟩:=d3
     (try simp only [Act.put,List.setIfInBounds_toArray,List.set_cons_zero,List.set_cons_succ] at hK)
     have cc0:=aft p8 hT.bel
     have cc1:=aft x0 hT.bel
     have cc2:=aft x1 hT.bel
     have cc3:=aft x2 hT.bel
     have cc4:=aft x3 hT.bel
     have cc5:=aft x4 hT.bel
     have cc6:=aft x5 hT.bel
     have cc7:=aft x6 hT.bel
     have cc8:=aft x7 hT.bel
     go_simp
     exact hK.out _ _ (Below.new _ _) ⟨_,op1,sg1,vw1,p1,n1,c1,pa1,ca1,rfl,Blk.new _ _,MSt.tf _ _ _ _ _ _ (λ b hb1 hb2=>⟨hb1,(Below.new _ _).block b hb2⟩) hF3⟩ (λ p hp=>by cases hp) List.nodup_nil
    exact ob_nil
    intro u wx hT hok
    obtain ⟨h0,h1,h2,h3,h4,_⟩:=hok
    clear h0 h1 h2 h3
    simp only [ownsC,Sp.own,Nat.reduceBEq,cond_false,List.append_nil] at hT
    have d4:=h4 (by kernel_rfl)
    clear h4
    generalize u 4=x4 at *
    obtain ⟨L4,op1,sg1,vw1,p1,n1,c1,pa1,ca1,rfl,hB4,hF4⟩:=d4
    (try dsimp only [List.nil_append,List.cons_append] at hT)
    have HTE:=Lib.hid hT
    clear hT
    clear HTr p8 x0 x1 x2 x3 x4 x5 x6 x7
    refine wpAny_of_held (S:=λ _=>True) _ _ _ _ ?_
    have HX:=Lib.hid ((HO5.out.drop (MSt.tf _ _) 1).below (MSt.tf _ _) HTE.out.bel)
    have hoa:=HX.out.own
    have hbz:=HX.out.bel.size
    have hi1000:i+1≤1001:=by have:=HA.out.2.2.2;have:=HE0.out.2.2.2;omega
    refine wpAnyH_ready (rs := [5]) (by kernel_rfl) (by simp) ?_
    refine held_cons rfl (λ K hK => ?_) AllReadyH.nil
    refine step_app rfl _ _ 55 rfl TExs w.heap.size (.slice vop i voc) i oc rfl hoa L4 1 1 [.int .i64 k0,.int .i64 op1,.int .i64 hw0,.int .i64 s0,.int .i64 lo0,.bool sg1,.int .i64 vw1,.slice p1 n1 c1,.slice pa1 b0.len ca1] rfl #[.int .i64 k0,.int .i64 op1,.int .i64 hw0,.int .i64 s0,.int .i64 lo0,.bool sg1,.int .i64 vw1,.slice p1 n1 c1,.slice pa1 b0.len ca1] hB4 rfl rfl (by simp [Value.oneCell']) Nat.one_pos (by omega) (by omega) hbz ?_
    intro g9 cap9 w9 happ
    refine hK.out _ _ trivial (λ _ => ?_)
    clear hK K
    (try simp only [Act.put,List.setIfInBounds_toArray,List.set_cons_zero,List.set_cons_succ])
    have HW:Hid (Below w5.heap.size w5 wx∧TF (From w5.heap.size) wx (.cons ⟨k0,hw0,s0,lo0⟩ b0 .nil) [.int .i64 k0,.int .i64 op1,.int .i64 hw0,.int .i64 s0,.int .i64 lo0,.bool sg1,.int .i64 vw1,.slice p1 n1 c1,.slice pa1 b0.len ca1]):=Lib.hid ⟨HTE.out.bel,hF4⟩
    have HY:Hid (Out 62 9 (λ A w=>TF A w (t.app (.cons ⟨k0,hw0,s0,lo0⟩ b0 .nil)) (oc ++ [.int .i64 k0,.int .i64 op1,.int .i64 hw0,.int .i64 s0,.int .i64 lo0,.bool sg1,.int .i64 vw1,.slice p1 n1 c1,.slice pa1 b0.len ca1])) w w9 [(w.heap.size+1+1,62, [.int .i64 k,.int .i64 op,.int .i64 wd,.int .i64 s,.int .i64 lo,.bool sg,.int .i64 vw,.slice vp vk vc,.slice vop i voc]),(w.heap.size+1,62, [.int .i64 0,.int .i64 0,.int .i64 0,.int .i64 0,.int .i64 0,.bool false,.int .i64 0,.slice none 0 0,.slice none 0 0]),(w.heap.size,76, [.int .i64 k,.int .i64 op,.int .i64 wd,.int .i64 s,.int .i64 lo,.bool sg,.slice pv vn cv,.slice (some ⟨ab,ao,none⟩) an ca])] (.slice (some ⟨g9,0,none⟩) (i+1) cap9) (i+1) (oc ++ [.int .i64 k0,.int .i64 op1,.int .i64 hw0,.int .i64 s0,.int .i64 lo0,.bool sg1,.int .i64 vw1,.slice p1 n1 c1,.slice pa1 b0.len ca1])):=Lib.hid (
     (((HO5.out.drop (MSt.tf _ _) 1).more (G':=λ A w=>TF A w (t.app (.cons ⟨k0,hw0,s0,lo0⟩ b0 .nil)) (oc ++ [.int .i64 k0,.int .i64 op1,.int .i64 hw0,.int .i64 s0,.int .i64 lo0,.bool sg1,.int .i64 vw1,.slice p1 n1 c1,.slice pa1 b0.len ca1])) (MSt.tf _ _) (MSt.tf _ _) HW.out.1 HW.out.2 (λ A W h1 h2=>TG.app h1 h2)).app (MSt.tf _ _) happ.toR))
    have q8:=(HY.out.at 0 rfl).cell (i:=8) rfl
    have q8f:=(HY.out.at 0 rfl).frz 8
    have HZ:Hid (Out 62 9 (λ A w=>TF A w (t.app (.cons ⟨k0,hw0,s0,lo0⟩ b0 .nil)) (oc ++ [.int .i64 k0,.int .i64 op1,.int .i64 hw0,.int .i64 s0,.int .i64 lo0,.bool sg1,.int .i64 vw1,.slice p1 n1 c1,.slice pa1 b0.len ca1])) w (w9.setCell ⟨w.heap.size+1+1,8,none⟩ (.slice (some ⟨g9,0,none⟩) (i+1) cap9)) [(w.heap.size+1+1,62, [.int .i64 k,.int .i64 op,.int .i64 wd,.int .i64 s,.int .i64 lo,.bool sg,.int .i64 vw,.slice vp vk vc,.slice (some ⟨g9,0,none⟩) (i+1) cap9]),(w.heap.size+1,62, [.int .i64 0,.int .i64 0,.int .i64 0,.int .i64 0,.int .i64 0,.bool false,.int .i64 0,.slice none 0 0,.slice none 0 0]),(w.heap.size,76, [.int .i64 k,.int .i64 op,.int .i64 wd,.int .i64 s,.int .i64 lo,.bool sg,.slice pv vn cv,.slice (some ⟨ab,ao,none⟩) an ca])] (.slice (some ⟨g9,0,none⟩) (i+1) cap9) (i+1) (oc ++ [.int .i64 k0,.int .i64 op1,.int .i64 hw0,.int .i64 s0,.int .i64 lo0,.bool sg1,.int .i64 vw1,.slice p1 n1 c1,.slice pa1 b0.len ca1])):=Lib.hid (HY.out.set (MSt.tf _ _) 0 rfl 8 (.slice (some ⟨g9,0,none⟩) (i+1) cap9))
    clear happ hoa hbz HX HY HW
    refine wpAnyH_ready (rs := [6]) (by kernel_rfl) (by simp) ?_
    refine held_cons rfl (λ K hK => ?_) AllReadyH.nil
    go_simp
    refine hK.out _ _ trivial (λ _ => ?_)
    clear hK K
    (try simp only [List.setIfInBounds_toArray,List.set_cons_zero,List.set_cons_succ])
    refine wpAnyH_ready (rs := [7]) (by kernel_rfl) (by simp) ?_
    refine held_cons rfl (λ K hK => ?_) AllReadyH.nil
    go_simp
    refine hK.out _ _ trivial (λ _ => ?_)
    clear hK K
    (try simp only [List.setIfInBounds_toArray,List.set_cons_zero,List.set_cons_succ])
    refine wpAnyH_done (by kernel_rfl) ?_ _
    generalize w9.setCell ⟨w.heap.size+1+1,8,none⟩ (.slice (some ⟨g9,0,none⟩) (i+1) cap9)=w10 at *
    clear q8 q8f HTE hB4 hF4 HO5
    go_wp2_with fail
    go_roundw
    case measure=>simp [intOf];omega
    case rel=>exact ⟨i+1,_,r0,_,_,by go_num,by rw [TL.app_len];have:=HL.out.1;simp [TL.len];omega,by rw [TL.app_assoc];exact HL.out.2,HE0.out.1.2,HE0.out.2.2.1,HZ.out⟩
   ·obtain rfl:r = .nil:=by
     cases r with
     | nil=>rfl
     | cons h0 b0 r0=>simp only [TL.len] at hln;omega
    have hii:¬(i:Int)<(an:Int):=by simp only [TL.len] at hln;omega
    have eti:t=a:=by have:=HL.out.2;rwa [TL.app_nil] at this
    subst eti
    have HLi:=HL.out.1
    clear hlt hln hAl hTr
    have y0:=(HO.out.at 0 rfl).cell (i:=0) rfl
    have z0:=(HO.out.at 1 rfl).cell (i:=0) rfl
    have zf0:=(HO.out.at 1 rfl).frz 0
    have y1:=(HO.out.at 0 rfl).cell (i:=1) rfl
    have z1:=(HO.out.at 1 rfl).cell (i:=1) rfl
    have zf1:=(HO.out.at 1 rfl).frz 1
    have y2:=(HO.out.at 0 rfl).cell (i:=2) rfl
    have z2:=(HO.out.at 1 rfl).cell (i:=2) rfl
    have zf2:=(HO.out.at 1 rfl).frz 2
    have y3:=(HO.out.at 0 rfl).cell (i:=3) rfl
    have z3:=(HO.out.at 1 rfl).cell (i:=3) rfl
    have zf3:=(HO.out.at 1 rfl).frz 3
    have y4:=(HO.out.at 0 rfl).cell (i:=4) rfl
    have z4:=(HO.out.at 1 rfl).cell (i:=4) rfl
    have zf4:=(HO.out.at 1 rfl).frz 4
    have y5:=(HO.out.at 0 rfl).cell (i:=5) rfl
    have z5:=(HO.out.at 1 rfl).cell (i:=5) rfl
    have zf5:=(HO.out.at 1 rfl).frz 5
    have y6:=(HO.out.at 0 rfl).cell (i:=6) rfl
    have z6:=(HO.out.at 1 rfl).cell (i:=6) rfl
    have zf6:=(HO.out.at 1 rfl).frz 6
    have y7:=(HO.out.at 0 rfl).cell (i:=7) rfl
    have z7:=(HO.out.at 1 rfl).cell (i:=7) rfl
    have zf7:=(HO.out.at 1 rfl).frz 7
    have y8:=(HO.out.at 0 rfl).cell (i:=8) rfl
    have z8:=(HO.out.at 1 rfl).cell (i:=8) rfl
    have zf8:=(HO.out.at 1 rfl).frz 8
    have HZ:=Lib.hid (((((((((HO.out.set (MSt.tf _ _) 1 rfl 0 (.int .i64 k)).set (MSt.tf _ _) 1 rfl 1 (.int .i64 op)).set (MSt.tf _ _) 1 rfl 2 (.int .i64 wd)).set (MSt.tf _ _) 1 rfl 3 (.int .i64 s)).set (MSt.tf _ _) 1 rfl 4 (.int .i64 lo)).set (MSt.tf _ _) 1 rfl 5 (.bool sg)).set (MSt.tf _ _) 1 rfl 6 (.int .i64 vw)).set (MSt.tf _ _) 1 rfl 7 (.slice vp vk vc)).set (MSt.tf _ _) 1 rfl 8 (.slice vop i voc))
    have s0:=(HZ.out.at 1 rfl).cell (i:=0) rfl
    have s1:=(HZ.out.at 1 rfl).cell (i:=1) rfl
    have s2:=(HZ.out.at 1 rfl).cell (i:=2) rfl
    have s3:=(HZ.out.at 1 rfl).cell (i:=3) rfl
    have s4:=(HZ.out.at 1 rfl).cell (i:=4) rfl
    have s5:=(HZ.out.at 1 rfl).cell (i:=5) rfl
    have s6:=(HZ.out.at 1 rfl).cell (i:=6) rfl
    have s7:=(HZ.out.at 1 rfl).cell (i:=7) rfl
    have s8:=(HZ.out.at 1 rfl).cell (i:=8) rfl
    go_wp2_with fail
    refine bodyPost_ret (v := .agg #[.int .i64 k,.int .i64 op,.int .i64 wd,.int .i64 s,.int .i64 lo,.bool sg,.int .i64 vw,.slice vp vk vc,.slice vop i voc]) (by simp [results,Try.results38,go_sem,s0,s1,s2,s3,s4,s5,s6,s7,s8]) rfl ?_
    refine ⟨[.int .i64 k,.int .i64 op,.int .i64 wd,.int .i64 s,.int .i64 lo,.bool sg,.int .i64 vw,.slice vp vk vc,.slice vop i voc],rfl,?_,HZ.out.bel⟩
    exact tf_mk (h:=⟨k,wd,s,lo⟩) (by have:=(MSt.ro _ _ _ _).mono (λ b hb=>hb.1) HZ.out.row;rw [HLi];exact this) ((MSt.tf _ _).mono (λ b hb=>hb.1) HZ.out.g)
theorem x_all {n:Nat}:∀ {t:TL},t.wf n→AllT XC t
 | .nil,_=>trivial
 | .cons h a r,hw=>⟨x_step hw.2.2.2.2.2.2.1 (x_all hw.2.2.2.2.2.2.2.1),x_all hw.2.2.2.2.2.2.2.2⟩
end Go.Proofs.Ytlklleaocbnbcaa
