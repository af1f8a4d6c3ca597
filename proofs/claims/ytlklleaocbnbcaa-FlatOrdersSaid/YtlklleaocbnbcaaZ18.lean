import Derived.Test.YtlklleaocbnbcaaZ17
import Derived.Deep.MidRow
namespace Go.Proofs.Ytlklleaocbnbcaa
set_option linter.unusedVariables false
open Go.RowKit Go.Sort
def StsR (t:SL) (w:World) (e:Ending) (w':World):Prop:=∃ (p:Option Addr) (c:Nat) (cs:List Value),e = .returned (.slice p t.len c)∧ROA (From w.heap.size) w' (.slice p t.len c) 20 t.len cs∧SF (From w.heap.size) w' t cs∧Below w.heap.size w w'
def StsC (t:SL):Prop:=∀ (A:Nat→Prop) (w:World) (p:Option Addr) (c:Nat) (cs:List Value),ROA A w (.slice p t.len c) 16 t.len cs→SR A w t cs→Calls Try.prog 20 #[.slice p t.len c] w (StsR t w)
theorem sizeFs:(Try.prog.info? 64).map (·.size)=some 20:=by kernel_rfl
theorem sizeT:(Try.prog.info? 76).map (·.size)=some 8:=by kernel_rfl
theorem infoFs:(Try.prog.info? 64).map (λ i=>(i.zero,i.size,i.bytes))=some (some (.agg #[.int .i64 0,.int .i64 0,.int .i64 0,.int .i64 0,.int .i64 0,.int .i64 0,.int .i64 0,.slice none 0 0,.int .i64 0,.int .i64 0,.int .i64 0,.int .i64 0,.int .i64 0,.bool false,.int .i64 0,.slice none 0 0,.slice none 0 0,.slice none 0 0,.slice none 0 0,.int .i64 0]),20,240):=by kernel_rfl
theorem TFss:SlTy Try.prog 47 64 20 240 (.agg #[.int .i64 0,.int .i64 0,.int .i64 0,.int .i64 0,.int .i64 0,.int .i64 0,.int .i64 0,.slice none 0 0,.int .i64 0,.int .i64 0,.int .i64 0,.int .i64 0,.int .i64 0,.bool false,.int .i64 0,.slice none 0 0,.slice none 0 0,.slice none 0 0,.slice none 0 0,.int .i64 0]):=SlTy.of Try.underlying47 infoFs rfl (by decide)
theorem SL.app_assoc:∀ (t:SL) (h:SH) (b e r:SL),(t.app (.cons h b e .nil)).app r=t.app (.cons h b e r)
 | .nil,_,_,_,_=>rfl
 | .cons h' b' e' t,h,b,e,r=>by simp only [SL.app,SL.app_assoc t h b e r]
theorem SL.app_nil:∀ (t:SL),t.app .nil=t
 | .nil=>rfl
 | .cons h b e t=>by simp only [SL.app,SL.app_nil t]
theorem SF.mono {A A':Nat→Prop} {w:World} {t:SL} {cs:List Value} (h:SF A w t cs) (hA:∀ b,A b→A' b):SF A' w t cs:=h.turn EF.stay λ b hb _=>⟨hA b hb,rfl⟩
theorem SR_st (t:SL) (cs:List Value):MSt λ A w=>SR A w t cs:=λ _ _ _ _ h hg=>hg.turn ER.stay h
set_option maxRecDepth 100000 in
set_option maxHeartbeats 16000000 in
theorem sts_step {n:Nat} {q:SL} (hql:q.len≤1000000) (hqw:q.wf n) (ih:AllS (λ _ b e=>StsC b∧StsC e) q):StsC q:=λ A w pl cl sc hr0 hs0=>by
 have hr:=(MSt.ro _ _ _ _) A (λ k=>k<w.heap.size) w w (λ b _ hl=>⟨hl,rfl⟩) hr0
 have hs:=(SR_st _ _) A (λ k=>k<w.heap.size) w w (λ b _ hl=>⟨hl,rfl⟩) hs0
 obtain ⟨ln,hln⟩:∃ n,q.len=n:=⟨_,rfl⟩
 have HA:Hid (ROA (λ k=>k<w.heap.size) w (.slice pl ln cl) 16 ln sc∧SR (λ k=>k<w.heap.size) w q sc∧q.len=ln∧ln≤1000000):=Lib.hid ⟨by rw [←hln];exact hr,hs,hln,by rw [←hln];exact hql⟩
 have HI:=Lib.hid ih
 have HW:=Lib.hid hqw
 rw [hln]
 clear hr hs hr0 hs0 ih hql hqw hln
 go_enter Try.func20,Try.ntmps20
 go_wp2_with fail
 go_loopw [3,11] (λ v iv wr=>∃ (i:Nat) (t r:SL) (oc:List Value),iv = .int .i64 (i:Nat)∧t.len=i∧t.app r=q∧AllS (λ _ b e=>StsC b∧StsC e) r∧r.wf n∧SR (λ k=>k<w.heap.size) w r (sc.drop (i*16))∧Out 64 20 (λ A w=>SF A w t oc) w wr [] v i oc) (λ _ iv _=>ln-(intOf iv).toNat)
 case atStart=>exact ⟨0,.nil,q, [],rfl,rfl,rfl,HI.out,HW.out,by simpa using HA.out.2.1,.start (MSt.sf _ _) (Tr.nil _) rfl⟩
 case round =>
  obtain ⟨wo,hwo⟩:∃ W,W=wr:=⟨_,rfl⟩
  subst hwo
  obtain ⟨i,t,r,oc,rfl,hti,htr,hAl,hwf,hTr,hO⟩:=hrel
  obtain ⟨vop,voc,rfl⟩:=ownsRow_form hO.own
  have HO:=Lib.hid hO
  have HL:=Lib.hid (And.intro hti htr)
  have hln:i+r.len=ln:=by have h:=HA.out.2.2.1;rw [←htr,SL.app_len] at h;omega
  clear hO
  by_cases hlt:i<ln
  ·obtain ⟨h0,b0,e0,r0,rfl⟩:∃ h0 b0 e0 r0,r = .cons h0 b0 e0 r0:=by
    cases r with
    | nil=>simp only [SL.len] at hln;omega
    | cons h0 b0 e0 r0=>exact ⟨h0,b0,e0,r0,rfl⟩
   obtain ⟨cs0,hcl,hat,hone,hrest⟩:=sr_at hTr
   obtain ⟨op,sg,pv,cv,vl,pa,ca,pi,ci,ic,pb,cb,bc,pe,ce,ec,rfl,hvt,hir,hit,hbr,hbs,her,hes⟩:=sr_one hone
   have hra:RO wo (.slice pl ln cl) 16 ln sc:=(HA.out.1.turn (A':=λ _=>True) (w':=wo) λ b hb _=>⟨trivial,HO.out.bel.block b hb⟩).ro
   obtain ⟨lb,lo16,rfl⟩:=hra.sl (hat 0 (by omega))
   obtain ⟨sk,ss,slo,swd,sas,idx,⟨k,hw,s,lo⟩,va⟩:=h0
   dsimp only at hat hvt hir hit hbr hbs her hes
   have hrg:wo.rangeAt lb (lo16+i*16) [.int .i64 sk,.int .i64 ss,.int .i64 slo,.int .i64 swd,.slice pi idx.len ci,.int .i64 k,.int .i64 op,.int .i64 hw,.int .i64 s,.int .i64 lo,.bool sg,.slice pv vl.length cv,.slice pa va.len ca,.slice pb b0.len cb,.slice pe e0.len ce,.int .i64 sas]:=λ j v hj=>by
    have hj16:j<16:=by have:=(List.getElem?_eq_some_iff.1 hj).1;simpa using this
    have:=hra.cell ((hat j hj16).trans hj)
    rwa [←Nat.add_assoc] at this
   have hii:(i:Int)<(ln:Int):=by omega
   have hi0:(0:Int)≤(i:Int):=by omega
   have hiw:IntKind.i64.wrap ((i:Int)+1)=((i+1:Nat):Int):=by rw [i64_of (by have:=HA.out.2.2.2;omega)];rfl
   have HE0:=Lib.hid (And.intro hAl (And.intro hwf (And.intro hrest hlt)))
   have HVw:=Lib.hid (show (TL.cons ⟨k,hw,s,lo⟩ va .nil).wf n from hwf.1.2.2.2.2.2.2.2)
   have HP:=Lib.hid (And.intro hvt (And.intro hir (And.intro hit (And.intro hbr (And.intro hbs (And.intro her hes))))))
   clear hat hone hrest hra hTr hAl hwf hti htr hln hlt hvt hir hit hbr hbs her hes hcl
   go_upto_region 5 with (refine wpList_load_mid rfl 81 _ rfl (lb) (lo16+i*16) rfl [.int .i64 sk,.int .i64 ss,.int .i64 slo,.int .i64 swd,.slice pi idx.len ci,.int .i64 k,.int .i64 op,.int .i64 hw,.int .i64 s,.int .i64 lo,.bool sg,.slice pv vl.length cv,.slice pa va.len ca,.slice pb b0.len cb,.slice pe e0.len ce,.int .i64 sas] _ hrg Try.underlying81 rfl sizeSt ?_)
   have HT5:=Lib.hid ((Tr.nil wo).lay 81 [.int .i64 sk,.int .i64 ss,.int .i64 slo,.int .i64 swd,.slice pi idx.len ci,.int .i64 k,.int .i64 op,.int .i64 hw,.int .i64 s,.int .i64 lo,.bool sg,.slice pv vl.length cv,.slice pa va.len ca,.slice pb b0.len cb,.slice pe e0.len ce,.int .i64 sas])
   change Hid (Tr wo _ (wo.alloc (.cells #[.int .i64 sk,.int .i64 ss,.int .i64 slo,.int .i64 swd,.slice pi idx.len ci,.int .i64 k,.int .i64 op,.int .i64 hw,.int .i64 s,.int .i64 lo,.bool sg,.slice pv vl.length cv,.slice pa va.len ca,.slice pb b0.len cb,.slice pe e0.len ce,.int .i64 sas] 81))) at HT5
   obtain ⟨xb,hxb⟩:∃ b,wo.heap.size=b:=⟨_,rfl⟩
   rw [hxb] at HT5 ⊢
   generalize wo.alloc (.cells #[.int .i64 sk,.int .i64 ss,.int .i64 slo,.int .i64 swd,.slice pi idx.len ci,.int .i64 k,.int .i64 op,.int .i64 hw,.int .i64 s,.int .i64 lo,.bool sg,.slice pv vl.length cv,.slice pa va.len ca,.slice pb b0.len cb,.slice pe e0.len ce,.int .i64 sas] 81)=w5 at *
   clear hrg
   go_cut [6] from 15 to 39 (λ v6 wx=>∃ (sb:Nat) (op1:Int) (sg1:Bool) (vw1:Int) (p1:Option Addr) (n1 c1:Nat) (pa1:Option Addr) (ca1:Nat) (pB:Option Addr) (cB:Nat) (bcc:List Value) (pE:Option Addr) (cE:Nat) (ecc:List Value),v6 = .pointer (some ⟨sb,0,none⟩)∧Out 62 9 (λ A w=>(TF A w (.cons ⟨k,hw,s,lo⟩ va .nil) [.int .i64 k,.int .i64 op1,.int .i64 hw,.int .i64 s,.int .i64 lo,.bool sg1,.int .i64 vw1,.slice p1 n1 c1,.slice pa1 va.len ca1]∧(ROA A w (.slice pB b0.len cB) 20 b0.len bcc∧SF A w b0 bcc))∧(ROA A w (.slice pE e0.len cE) 20 e0.len ecc∧SF A w e0 ecc)) wo wx [(sb,64, [.int .i64 sk,.int .i64 0,.int .i64 0,.int .i64 0,.int .i64 ss,.int .i64 slo,.int .i64 swd,.slice none 0 0,.int .i64 k,.int .i64 op1,.int .i64 hw,.int .i64 s,.int .i64 lo,.bool sg1,.int .i64 vw1,.slice p1 n1 c1,.slice pa1 va.len ca1,.slice pB b0.len cB,.slice pE e0.len cE,.int .i64 sas]),(xb,81, [.int .i64 sk,.int .i64 ss,.int .i64 slo,.int .i64 swd,.slice pi idx.len ci,.int .i64 k,.int .i64 op,.int .i64 hw,.int .i64 s,.int .i64 lo,.bool sg,.slice pv vl.length cv,.slice pa va.len ca,.slice pb b0.len cb,.slice pe e0.len ce,.int .i64 sas])] (.slice none 0 0) 0 [])
   case first =>
    refine wp_region_held_drew (S:=(λ W=>Blk W xb 81 [.int .i64 sk,.int .i64 ss,.int .i64 slo,.int .i64 swd,.slice pi idx.len ci,.int .i64 k,.int .i64 op,.int .i64 hw,.int .i64 s,.int .i64 lo,.bool sg,.slice pv vl.length cv,.slice pa va.len ca,.slice pb b0.len cb,.slice pe e0.len ce,.int .i64 sas])) (by kernel_rfl) ?_ (λ hS => ?_)
    ·exact HT5.out.at 0 rfl
    have HO0:Hid (Out 62 9 (λ _ _=>True) wo w5.drew [(xb,81, [.int .i64 sk,.int .i64 ss,.int .i64 slo,.int .i64 swd,.slice pi idx.len ci,.int .i64 k,.int .i64 op,.int .i64 hw,.int .i64 s,.int .i64 lo,.bool sg,.slice pv vl.length cv,.slice pa va.len ca,.slice pb b0.len cb,.slice pe e0.len ce,.int .i64 sas])] (.slice none 0 0) 0 []):=Lib.hid (.start MSt.tt HT5.out.drew trivial)
    generalize w5.drew=w5d at *
    refine held_take (i:=0) (v := .pointer (some ⟨xb,0,none⟩)) rfl (by kernel_rfl) (by kernel_rfl) (by kernel_rfl) (λ _ _ _ h=>h) (Or.inl ⟨by rfl,?_⟩) (by assumption) ?_
    ·intro w hSw;go_simp;(try with_reducible rfl)
    (try simp only [Act.put,List.setIfInBounds_toArray,List.set_cons_zero,List.set_cons_succ])
    refine held_take (i:=1) (v := .int .i64 sk) rfl (by kernel_rfl) (by kernel_rfl) (by kernel_rfl) (λ _ _ _ h=>h) (Or.inl ⟨by rfl,?_⟩) (by assumption) ?_
    ·intro w hSw;have z0:=Blk.cell hSw (i:=0) rfl;go_simp;(try with_reducible rfl)
    (try simp only [Act.put,List.setIfInBounds_toArray,List.set_cons_zero,List.set_cons_succ])
    refine held_take (i:=2) (v := .pointer (some ⟨xb,1,none⟩)) rfl (by kernel_rfl) (by kernel_rfl) (by kernel_rfl) (λ _ _ _ h=>h) (Or.inl ⟨by rfl,?_⟩) (by assumption) ?_
    ·intro w hSw;go_simp;(try with_reducible rfl)
    (try simp only [Act.put,List.setIfInBounds_toArray,List.set_cons_zero,List.set_cons_succ])
    refine held_take (i:=3) (v := .pointer (some ⟨xb,1,none⟩)) rfl (by kernel_rfl) (by kernel_rfl) (by kernel_rfl) (λ _ _ _ h=>h) (Or.inl ⟨by rfl,?_⟩) (by assumption) ?_
    ·intro w hSw;go_simp;(try with_reducible rfl)
    (try simp only [Act.put,List.setIfInBounds_toArray,List.set_cons_zero,List.set_cons_succ])
    refine held_take (i:=4) (v := .int .i64 ss) rfl (by kernel_rfl) (by kernel_rfl) (by kernel_rfl) (λ _ _ _ h=>h) (Or.inl ⟨by rfl,?_⟩) (by assumption) ?_
    ·intro w hSw;have z1:=Blk.cell hSw (i:=1) rfl;go_simp;(try with_reducible rfl)
    (try simp only [Act.put,List.setIfInBounds_toArray,List.set_cons_zero,List.set_cons_succ])
    refine held_take (i:=5) (v := .pointer (some ⟨xb,1,none⟩)) rfl (by kernel_rfl) (by kernel_rfl) (by kernel_rfl) (λ _ _ _ h=>h) (Or.inl ⟨by rfl,?_⟩) (by assumption) ?_
    ·intro w hSw;go_simp;(try with_reducible rfl)
    (try simp only [Act.put,List.setIfInBounds_toArray,List.set_cons_zero,List.set_cons_succ])
    refine held_take (i:=6) (v := .pointer (some ⟨xb,2,none⟩)) rfl (by kernel_rfl) (by kernel_rfl) (by kernel_rfl) (λ _ _ _ h=>h) (Or.inl ⟨by rfl,?_⟩) (by assumption) ?_
    ·intro w hSw;go_simp;(try with_reducible rfl)
    (try simp only [Act.put,List.setIfInBounds_toArray,List.set_cons_zero,List.set_cons_succ])
    refine held_take (i:=7) (v := .int .i64 slo) rfl (by kernel_rfl) (by kernel_rfl) (by kernel_rfl) (λ _ _ _ h=>h) (Or.inl ⟨by rfl,?_⟩) (by assumption) ?_
    ·intro w hSw;have z2:=Blk.cell hSw (i:=2) rfl;go_simp;(try with_reducible rfl)
    (try simp only [Act.put,List.setIfInBounds_toArray,List.set_cons_zero,List.set_cons_succ])
    refine held_take (i:=8) (v := .pointer (some ⟨xb,1,none⟩)) rfl (by kernel_rfl) (by kernel_rfl) (by kernel_rfl) (λ _ _ _ h=>h) (Or.inl ⟨by rfl,?_⟩) (by assumption) ?_
    ·intro w hSw;go_simp;(try with_reducible rfl)
    (try simp only [Act.put,List.setIfInBounds_toArray,List.set_cons_zero,List.set_cons_succ])
    refine held_take (i:=9) (v := .pointer (some ⟨xb,3,none⟩)) rfl (by kernel_rfl) (by kernel_rfl) (by kernel_rfl) (λ _ _ _ h=>h) (Or.inl ⟨by rfl,?_⟩) (by assumption) ?_
    ·intro w hSw;go_simp;(try with_reducible rfl)
    (try simp only [Act.put,List.setIfInBounds_toArray,List.set_cons_zero,List.set_cons_succ])
    refine held_take (i:=10) (v := .int .i64 swd) rfl (by kernel_rfl) (by kernel_rfl) (by kernel_rfl) (λ _ _ _ h=>h) (Or.inl ⟨by rfl,?_⟩) (by assumption) ?_
    ·intro w hSw;have z3:=Blk.cell hSw (i:=3) rfl;go_simp;(try with_reducible rfl)
    (try simp only [Act.put,List.setIfInBounds_toArray,List.set_cons_zero,List.set_cons_succ])
    refine held_take (i:=11) (v := .agg #[.int .i64 ss,.int .i64 slo,.int .i64 swd,.slice none 0 0]) rfl (by kernel_rfl) (by kernel_rfl) (by kernel_rfl) (λ _ _ _ h=>h) (Or.inl ⟨by rfl,?_⟩) (by assumption) ?_
    ·intro w hSw;go_simp;(try with_reducible rfl)
    (try simp only [Act.put,List.setIfInBounds_toArray,List.set_cons_zero,List.set_cons_succ])
    refine held_take (i:=12) (v := .pointer (some ⟨xb,5,none⟩)) rfl (by kernel_rfl) (by kernel_rfl) (by kernel_rfl) (λ _ _ _ h=>h) (Or.inl ⟨by rfl,?_⟩) (by assumption) ?_
    ·intro w hSw;go_simp;(try with_reducible rfl)
    (try simp only [Act.put,List.setIfInBounds_toArray,List.set_cons_zero,List.set_cons_succ])
    refine held_take (i:=13) (v := .agg #[.int .i64 k,.int .i64 op,.int .i64 hw,.int .i64 s,.int .i64 lo,.bool sg,.slice pv vl.length cv,.slice pa va.len ca]) rfl (by kernel_rfl) (by kernel_rfl) (by kernel_rfl) (λ _ _ _ h=>h) (Or.inl ⟨by rfl,?_⟩) (by assumption) ?_
    ·intro w hSw;have z5:=Blk.cell hSw (i:=5) rfl;have z6:=Blk.cell hSw (i:=6) rfl;have z7:=Blk.cell hSw (i:=7) rfl;have z8:=Blk.cell hSw (i:=8) rfl;have z9:=Blk.cell hSw (i:=9) rfl;have z10:=Blk.cell hSw (i:=10) rfl;have z11:=Blk.cell hSw (i:=11) rfl;have z12:=Blk.cell hSw (i:=12) rfl;go_simp;(try with_reducible rfl)
    (try simp only [Act.put,List.setIfInBounds_toArray,List.set_cons_zero,List.set_cons_succ])
    refine held_take (i:=15) (v := .pointer (some ⟨xb,13,none⟩)) rfl (by kernel_rfl) (by kernel_rfl) (by kernel_rfl) (λ _ _ _ h=>h) (Or.inl ⟨by rfl,?_⟩) (by assumption) ?_
    ·intro w hSw;go_simp;(try with_reducible rfl)
    (try simp only [Act.put,List.setIfInBounds_toArray,List.set_cons_zero,List.set_cons_succ])
    refine held_take (i:=16) (v := .slice pb b0.len cb) rfl (by kernel_rfl) (by kernel_rfl) (by kernel_rfl) (λ _ _ _ h=>h) (Or.inl ⟨by rfl,?_⟩) (by assumption) ?_
    ·intro w hSw;have z13:=Blk.cell hSw (i:=13) rfl;go_simp;(try with_reducible rfl)
    (try simp only [Act.put,List.setIfInBounds_toArray,List.set_cons_zero,List.set_cons_succ])
    refine held_take (i:=18) (v := .pointer (some ⟨xb,14,none⟩)) rfl (by kernel_rfl) (by kernel_rfl) (by kernel_rfl) (λ _ _ _ h=>h) (Or.inl ⟨by rfl,?_⟩) (by assumption) ?_
    ·intro w hSw;go_simp;(try with_reducible rfl)
    (try simp only [Act.put,List.setIfInBounds_toArray,List.set_cons_zero,List.set_cons_succ])
    refine held_take (i:=19) (v := .slice pe e0.len ce) rfl (by kernel_rfl) (by kernel_rfl) (by kernel_rfl) (λ _ _ _ h=>h) (Or.inl ⟨by rfl,?_⟩) (by assumption) ?_
    ·intro w hSw;have z14:=Blk.cell hSw (i:=14) rfl;go_simp;(try with_reducible rfl)
    (try simp only [Act.put,List.setIfInBounds_toArray,List.set_cons_zero,List.set_cons_succ])
    refine held_take (i:=21) (v := .pointer (some ⟨xb,15,none⟩)) rfl (by kernel_rfl) (by kernel_rfl) (by kernel_rfl) (λ _ _ _ h=>h) (Or.inl ⟨by rfl,?_⟩) (by assumption) ?_
    ·intro w hSw;go_simp;(try with_reducible rfl)
    (try simp only [Act.put,List.setIfInBounds_toArray,List.set_cons_zero,List.set_cons_succ])
    refine held_take (i:=22) (v := .int .i64 sas) rfl (by kernel_rfl) (by kernel_rfl) (by kernel_rfl) (λ _ _ _ h=>h) (Or.inl ⟨by rfl,?_⟩) (by assumption) ?_
    ·intro w hSw;have z15:=Blk.cell hSw (i:=15) rfl;go_simp;(try with_reducible rfl)
    (try simp only [Act.put,List.setIfInBounds_toArray,List.set_cons_zero,List.set_cons_succ])
    refine wpAnyH_ready (rs := [14,24]) (by kernel_rfl) (by simp) ?_
    refine held_cons rfl (λ K hK => ?_) (held_cons rfl (λ K hK => ?_) AllReadyH.nil)
    ·skip
     go_simp
     refine (x_step HVw.out.2.2.2.2.2.2.1 (x_all HVw.out.2.2.2.2.2.2.2.1) (λ _=>True) w5d _ ((MSt.tr _ _) _ _ _ _ (λ b hb _=>⟨trivial,(Below.next HO.out.bel HO0.out.bel).block b hb⟩) HP.out.1)).mono ?_;rintro e w_a14 ⟨fc,rfl,hf,hb9⟩
     obtain ⟨op1,sg1,vw1,p1,n1,c1,pa1,ca1,rfl⟩:=tf_form hf
     have HO_a14:=Lib.hid (HO0.out.more (G':=λ A w=>TF A w (.cons ⟨k,hw,s,lo⟩ va .nil) [.int .i64 k,.int .i64 op1,.int .i64 hw,.int .i64 s,.int .i64 lo,.bool sg1,.int .i64 vw1,.slice p1 n1 c1,.slice pa1 va.len ca1]) MSt.tt (MSt.tf _ _) hb9 hf (λ _ _ _ h=>h))
     refine hK.out _ _ (hS.next hb9) (λ hS2 => ?_)
     clear hf hb9
     clear hK K hS
     have hS:=hS2
     clear hS2
     (try simp only [])
     refine wpAnyH_ready (rs := [17,24]) (by kernel_rfl) (by simp) ?_
     refine held_cons rfl (λ K hK => ?_) (held_cons rfl (λ K hK => ?_) AllReadyH.nil)
     ·skip
      go_simp
      refine (HE0.out.1.1.1 (λ _=>True) w_a14 _ _ _ ((MSt.ro _ _ _ _) _ _ _ _ (λ b hb _=>⟨trivial,(Below.next HO.out.bel HO_a14.out.bel).block b hb⟩) HP.out.2.2.2.1) ((SR_st _ _) _ _ _ _ (λ b hb _=>⟨trivial,(Below.next HO.out.bel HO_a14.out.bel).block b hb⟩) HP.out.2.2.2.2.1)).mono ?_;rintro e w_a17 ⟨pB,cB,bcc,rfl,hr9,hf,hb9⟩
      have HO_a17:=Lib.hid (HO_a14.out.more (G':=λ A w=>_∧(ROA A w (.slice pB b0.len cB) 20 b0.len bcc∧SF A w b0 bcc)) (MSt.tf _ _) ((MSt.ro _ _ _ _).and (MSt.sf _ _)) hb9 ⟨hr9,hf⟩ (λ _ _ h1 h2=>⟨h1,h2⟩))
      refine hK.out _ _ (hS.next hb9) (λ hS2 => ?_)
      clear hf hb9 hr9
      clear hK K hS
      have hS:=hS2
      clear hS2
      (try simp only [Act.put,List.setIfInBounds_toArray,List.set_cons_zero,List.set_cons_succ])
      refine wpAnyH_ready (rs := [20,24]) (by kernel_rfl) (by simp) ?_
      refine held_cons rfl (λ K hK => ?_) (held_cons rfl (λ K hK => ?_) AllReadyH.nil)
      ·skip
       go_simp
       refine (HE0.out.1.1.2 (λ _=>True) w_a17 _ _ _ ((MSt.ro _ _ _ _) _ _ _ _ (λ b hb _=>⟨trivial,(Below.next HO.out.bel HO_a17.out.bel).block b hb⟩) HP.out.2.2.2.2.2.1) ((SR_st _ _) _ _ _ _ (λ b hb _=>⟨trivial,(Below.next HO.out.bel HO_a17.out.bel).block b hb⟩) HP.out.2.2.2.2.2.2)).mono ?_;rintro e w_a20 ⟨pE,cE,ecc,rfl,hr9,hf,hb9⟩
       have HO_a20:=Lib.hid (HO_a17.out.more (G':=λ A w=>_∧(ROA A w (.slice pE e0.len cE) 20 e0.len ecc∧SF A w e0 ecc)) ((MSt.tf _ _).and ((MSt.ro _ _ _ _).and (MSt.sf _ _))) ((MSt.ro _ _ _ _).and (MSt.sf _ _)) hb9 ⟨hr9,hf⟩ (λ _ _ h1 h2=>⟨h1,h2⟩))
       refine hK.out _ _ (hS.next hb9) (λ hS2 => ?_)
       clear hf hb9 hr9
       clear hK K hS
       have hS:=hS2
       clear hS2
       (try simp only [Act.put,List.setIfInBounds_toArray,List.set_cons_zero,List.set_cons_succ])
       refine held_take (i:=23) (v := .agg #[.int .i64 sk,.int .i64 0,.int .i64 0,.int .i64 0,.int .i64 ss,.int .i64 slo,.int .i64 swd,.slice none 0 0,.int .i64 k,.int .i64 op1,.int .i64 hw,.int .i64 s,.int .i64 lo,.bool sg1,.int .i64 vw1,.slice p1 n1 c1,.slice pa1 va.len ca1,.slice pB b0.len cB,.slice pE e0.len cE,.int .i64 sas]) rfl (by kernel_rfl) (by kernel_rfl) (by kernel_rfl) (λ _ _ _ h=>h) (Or.inl ⟨by rfl,?_⟩) (by assumption) ?_
       ·intro w hSw;go_simp;(try with_reducible rfl)
       (try simp only [Act.put,List.setIfInBounds_toArray,List.set_cons_zero,List.set_cons_succ])
       refine wpAnyH_ready (rs := [24]) (by kernel_rfl) (by simp) ?_
       refine held_cons rfl (λ K hK => ?_) AllReadyH.nil
       go_simp
       have HO_ax:=Lib.hid (HO_a20.out.lay (((MSt.tf _ _).and ((MSt.ro _ _ _ _).and (MSt.sf _ _))).and ((MSt.ro _ _ _ _).and (MSt.sf _ _))) 64 [.int .i64 0,.int .i64 0,.int .i64 0,.int .i64 0,.int .i64 0,.int .i64 0,.int .i64 0,.slice none 0 0,.int .i64 0,.int .i64 0,.int .i64 0,.int .i64 0,.int .i64 0,.bool false,.int .i64 0,.slice none 0 0,.slice none 0 0,.slice none 0 0,.slice none 0 0,.int .i64 0])
       change Hid (Out _ _ _ wo (w_a20.alloc (.cells #[.int .i64 0,.int .i64 0,.int .i64 0,.int .i64 0,.int .i64 0,.int .i64 0,.int .i64 0,.slice none 0 0,.int .i64 0,.int .i64 0,.int .i64 0,.int .i64 0,.int .i64 0,.bool false,.int .i64 0,.slice none 0 0,.slice none 0 0,.slice none 0 0,.slice none 0 0,.int .i64 0] 64)) _ _ _ _) at HO_ax
       refine hK.out _ _ (hS.next (Below.new _ _)) (λ hS2 => ?_)
       obtain ⟨sb,hsb⟩:∃ b,w_a20.heap.size=b:=⟨_,rfl⟩
       rw [hsb] at HO_ax ⊢
       generalize w_a20.alloc (.cells #[.int .i64 0,.int .i64 0,.int .i64 0,.int .i64 0,.int .i64 0,.int .i64 0,.int .i64 0,.slice none 0 0,.int .i64 0,.int .i64 0,.int .i64 0,.int .i64 0,.int .i64 0,.bool false,.int .i64 0,.slice none 0 0,.slice none 0 0,.slice none 0 0,.slice none 0 0,.int .i64 0] 64)=w_ax at *
       clear hsb
       clear hK K hS
       have hS:=hS2
       clear hS2
       (try simp only [Act.put,List.setIfInBounds_toArray,List.set_cons_zero,List.set_cons_succ])
       have hS3:=hS
       have HF:Hid (Out 62 9 (λ A w=>(TF A w (.cons ⟨k,hw,s,lo⟩ va .nil) [.int .i64 k,.int .i64 op1,.int .i64 hw,.int .i64 s,.int .i64 lo,.bool sg1,.int .i64 vw1,.slice p1 n1 c1,.slice pa1 va.len ca1]∧(ROA A w (.slice pB b0.len cB) 20 b0.len bcc∧SF A w b0 bcc))∧(ROA A w (.slice pE e0.len cE) 20 e0.len ecc∧SF A w e0 ecc)) wo (w_ax.setCells sb 0 [.int .i64 sk,.int .i64 0,.int .i64 0,.int .i64 0,.int .i64 ss,.int .i64 slo,.int .i64 swd,.slice none 0 0,.int .i64 k,.int .i64 op1,.int .i64 hw,.int .i64 s,.int .i64 lo,.bool sg1,.int .i64 vw1,.slice p1 n1 c1,.slice pa1 va.len ca1,.slice pB b0.len cB,.slice pE e0.len cE,.int .i64 sas]) [(sb,64, [.int .i64 sk,.int .i64 0,.int .i64 0,.int .i64 0,.int .i64 ss,.int .i64 slo,.int .i64 swd,.slice none 0 0,.int .i64 k,.int .i64 op1,.int .i64 hw,.int .i64 s,.int .i64 lo,.bool sg1,.int .i64 vw1,.slice p1 n1 c1,.slice pa1 va.len ca1,.slice pB b0.len cB,.slice pE e0.len cE,.int .i64 sas]),(xb,81, [.int .i64 sk,.int .i64 ss,.int .i64 slo,.int .i64 swd,.slice pi idx.len ci,.int .i64 k,.int .i64 op,.int .i64 hw,.int .i64 s,.int .i64 lo,.bool sg,.slice pv vl.length cv,.slice pa va.len ca,.slice pb b0.len cb,.slice pe e0.len ce,.int .i64 sas])] (.slice none 0 0) 0 []):=Lib.hid (HO_ax.out.all (((MSt.tf _ _).and ((MSt.ro _ _ _ _).and (MSt.sf _ _))).and ((MSt.ro _ _ _ _).and (MSt.sf _ _))) 0 rfl [.int .i64 sk,.int .i64 0,.int .i64 0,.int .i64 0,.int .i64 ss,.int .i64 slo,.int .i64 swd,.slice none 0 0,.int .i64 k,.int .i64 op1,.int .i64 hw,.int .i64 s,.int .i64 lo,.bool sg1,.int .i64 vw1,.slice p1 n1 c1,.slice pa1 va.len ca1,.slice pB b0.len cB,.slice pE e0.len cE,.int .i64 sas] rfl)
       refine wpAnyH_ready (rs := [25]) (by kernel_rfl) (by simp) ?_
       refine held_cons rfl (λ K hK => ?_) AllReadyH.nil
       refine step_store rfl _ _ _ rfl sb [.int .i64 sk,.int .i64 0,.int .i64 0,.int .i64 0,.int .i64 ss,.int .i64 slo,.int .i64 swd,.slice none 0 0,.int .i64 k,.int .i64 op1,.int .i64 hw,.int .i64 s,.int .i64 lo,.bool sg1,.int .i64 vw1,.slice p1 n1 c1,.slice pa1 va.len ca1,.slice pB b0.len cB,.slice pE e0.len cE,.int .i64 sas] rfl rfl (HO_ax.out.at 0 rfl) (by simp) sizeFs (by simp [Value.oneCell']) ?_
       refine hK.out _ _ (HF.out.at 1 rfl) (λ hS2 => ?_)
       clear hK K hS hS3
       (try simp only [Act.put])
       refine wpAnyH_done (by kernel_rfl) ?_ _
       generalize w_ax.setCells sb 0 [.int .i64 sk,.int .i64 0,.int .i64 0,.int .i64 0,.int .i64 ss,.int .i64 slo,.int .i64 swd,.slice none 0 0,.int .i64 k,.int .i64 op1,.int .i64 hw,.int .i64 s,.int .i64 lo,.bool sg1,.int .i64 vw1,.slice p1 n1 c1,.slice pa1 va.len ca1,.slice pB b0.len cB,.slice pE e0.len cE,.int .i64 sas]=w7 at *
       go_wp2_with fail
       go_meet
       exact ⟨sb,op1,sg1,vw1,p1,n1,c1,pa1,ca1,pB,cB,bcc,pE,cE,ecc,rfl,HF.out⟩
      ·skip
       go_simp
       have HO_abx:=Lib.hid (HO_a17.out.lay ((MSt.tf _ _).and ((MSt.ro _ _ _ _).and (MSt.sf _ _))) 64 [.int .i64 0,.int .i64 0,.int .i64 0,.int .i64 0,.int .i64 0,.int .i64 0,.int .i64 0,.slice none 0 0,.int .i64 0,.int .i64 0,.int .i64 0,.int .i64 0,.int .i64 0,.bool false,.int .i64 0,.slice none 0 0,.slice none 0 0,.slice none 0 0,.slice none 0 0,.int .i64 0])
       change Hid (Out _ _ _ wo (w_a17.alloc (.cells #[.int .i64 0,.int .i64 0,.int .i64 0,.int .i64 0,.int .i64 0,.int .i64 0,.int .i64 0,.slice none 0 0,.int .i64 0,.int .i64 0,.int .i64 0,.int .i64 0,.int .i64 0,.bool false,.int .i64 0,.slice none 0 0,.slice none 0 0,.slice none 0 0,.slice none 0 0,.int .i64 0] 64)) _ _ _ _) at HO_abx
       refine hK.out _ _ (hS.next (Below.new _ _)) (λ hS2 => ?_)
       obtain ⟨sb,hsb⟩:∃ b,w_a17.heap.size=b:=⟨_,rfl⟩
       rw [hsb] at HO_abx ⊢
       generalize w_a17.alloc (.cells #[.int .i64 0,.int .i64 0,.int .i64 0,.int .i64 0,.int .i64 0,.int .i64 0,.int .i64 0,.slice none 0 0,.int .i64 0,.int .i64 0,.int .i64 0,.int .i64 0,.int .i64 0,.bool false,.int .i64 0,.slice none 0 0,.slice none 0 0,.slice none 0 0,.slice none 0 0,.int .i64 0] 64)=w_abx at *
       clear hsb
       clear hK K hS
       have hS:=hS2
       clear hS2
       (try simp only [Act.put,List.setIfInBounds_toArray,List.set_cons_zero,List.set_cons_succ])
       refine wpAnyH_ready (rs := [20]) (by kernel_rfl) (by simp) ?_
       refine held_cons rfl (λ K hK => ?_) AllReadyH.nil
       go_simp
       refine (HE0.out.1.1.2 (λ _=>True) w_abx _ _ _ ((MSt.ro _ _ _ _) _ _ _ _ (λ b hb _=>⟨trivial,(Below.next HO.out.bel HO_abx.out.bel).block b hb⟩) HP.out.2.2.2.2.2.1) ((SR_st _ _) _ _ _ _ (λ b hb _=>⟨trivial,(Below.next HO.out.bel HO_abx.out.bel).block b hb⟩) HP.out.2.2.2.2.2.2)).mono ?_;rintro e w_ab20 ⟨pE,cE,ecc,rfl,hr9,hf,hb9⟩
       have HO_ab20:=Lib.hid (HO_abx.out.more (G':=λ A w=>_∧(ROA A w (.slice pE e0.len cE) 20 e0.len ecc∧SF A w e0 ecc)) ((MSt.tf _ _).and ((MSt.ro _ _ _ _).and (MSt.sf _ _))) ((MSt.ro _ _ _ _).and (MSt.sf _ _)) hb9 ⟨hr9,hf⟩ (λ _ _ h1 h2=>⟨h1,h2⟩))
       refine hK.out _ _ (hS.next hb9) (λ hS2 => ?_)
       clear hf hb9 hr9
       clear hK K hS
       have hS:=hS2
       clear hS2
       (try simp only [Act.put,List.setIfInBounds_toArray,List.set_cons_zero,List.set_cons_succ])
       refine held_take (i:=23) (v := .agg #[.int .i64 sk,.int .i64 0,.int .i64 0,.int .i64 0,.int .i64 ss,.int .i64 slo,.int .i64 swd,.slice none 0 0,.int .i64 k,.int .i64 op1,.int .i64 hw,.int .i64 s,.int .i64 lo,.bool sg1,.int .i64 vw1,.slice p1 n1 c1,.slice pa1 va.len ca1,.slice pB b0.len cB,.slice pE e0.len cE,.int .i64 sas]) rfl (by kernel_rfl) (by kernel_rfl) (by kernel_rfl) (λ _ _ _ h=>h) (Or.inl ⟨by rfl,?_⟩) (by assumption) ?_
       ·intro w hSw;go_simp;(try with_reducible rfl)
       (try simp only [Act.put,List.setIfInBounds_toArray,List.set_cons_zero,List.set_cons_succ])
       have hS3:=hS
       have HF:Hid (Out 62 9 (λ A w=>(TF A w (.cons ⟨k,hw,s,lo⟩ va .nil) [.int .i64 k,.int .i64 op1,.int .i64 hw,.int .i64 s,.int .i64 lo,.bool sg1,.int .i64 vw1,.slice p1 n1 c1,.slice pa1 va.len ca1]∧(ROA A w (.slice pB b0.len cB) 20 b0.len bcc∧SF A w b0 bcc))∧(ROA A w (.slice pE e0.len cE) 20 e0.len ecc∧SF A w e0 ecc)) wo (w_ab20.setCells sb 0 [.int .i64 sk,.int .i64 0,.int .i64 0,.int .i64 0,.int .i64 ss,.int .i64 slo,.int .i64 swd,.slice none 0 0,.int .i64 k,.int .i64 op1,.int .i64 hw,.int .i64 s,.int .i64 lo,.bool sg1,.int .i64 vw1,.slice p1 n1 c1,.slice pa1 va.len ca1,.slice pB b0.len cB,.slice pE e0.len cE,.int .i64 sas]) [(sb,64, [.int .i64 sk,.int .i64 0,.int .i64 0,.int .i64 0,.int .i64 ss,.int .i64 slo,.int .i64 swd,.slice none 0 0,.int .i64 k,.int .i64 op1,.int .i64 hw,.int .i64 s,.int .i64 lo,.bool sg1,.int .i64 vw1,.slice p1 n1 c1,.slice pa1 va.len ca1,.slice pB b0.len cB,.slice pE e0.len cE,.int .i64 sas]),(xb,81, [.int .i64 sk,.int .i64 ss,.int .i64 slo,.int .i64 swd,.slice pi idx.len ci,.int .i64 k,.int .i64 op,.int .i64 hw,.int .i64 s,.int .i64 lo,.bool sg,.slice pv vl.length cv,.slice pa va.len ca,.slice pb b0.len cb,.slice pe e0.len ce,.int .i64 sas])] (.slice none 0 0) 0 []):=Lib.hid (HO_ab20.out.all (((MSt.tf _ _).and ((MSt.ro _ _ _ _).and (MSt.sf _ _))).and ((MSt.ro _ _ _ _).and (MSt.sf _ _))) 0 rfl [.int .i64 sk,.int .i64 0,.int .i64 0,.int .i64 0,.int .i64 ss,.int .i64 slo,.int .i64 swd,.slice none 0 0,.int .i64 k,.int .i64 op1,.int .i64 hw,.int .i64 s,.int .i64 lo,.bool sg1,.int .i64 vw1,.slice p1 n1 c1,.slice pa1 va.len ca1,.slice pB b0.len cB,.slice pE e0.len cE,.int .i64 sas] rfl)
       refine wpAnyH_ready (rs := [25]) (by kernel_rfl) (by simp) ?_
       refine held_cons rfl (λ K hK => ?_) AllReadyH.nil
       refine step_store rfl _ _ _ rfl sb [.int .i64 sk,.int .i64 0,.int .i64 0,.int .i64 0,.int .i64 ss,.int .i64 slo,.int .i64 swd,.slice none 0 0,.int .i64 k,.int .i64 op1,.int .i64 hw,.int .i64 s,.int .i64 lo,.bool sg1,.int .i64 vw1,.slice p1 n1 c1,.slice pa1 va.len ca1,.slice pB b0.len cB,.slice pE e0.len cE,.int .i64 sas] rfl rfl (HO_ab20.out.at 0 rfl) (by simp) sizeFs (by simp [Value.oneCell']) ?_
       refine hK.out _ _ (HF.out.at 1 rfl) (λ hS2 => ?_)
       clear hK K hS hS3
       (try simp only [Act.put])
       refine wpAnyH_done (by kernel_rfl) ?_ _
       generalize w_ab20.setCells sb 0 [.int .i64 sk,.int .i64 0,.int .i64 0,.int .i64 0,.int .i64 ss,.int .i64 slo,.int .i64 swd,.slice none 0 0,.int .i64 k,.int .i64 op1,.int .i64 hw,.int .i64 s,.int .i64 lo,.bool sg1,.int .i64 vw1,.slice p1 n1 c1,.slice pa1 va.len ca1,.slice pB b0.len cB,.slice pE e0.len cE,.int .i64 sas]=w7 at *
       go_wp2_with fail
       go_meet
       exact ⟨sb,op1,sg1,vw1,p1,n1,c1,pa1,ca1,pB,cB,bcc,pE,cE,ecc,rfl,HF.out⟩
     ·skip
      go_simp
      have HO_abx:=Lib.hid (HO_a14.out.lay (MSt.tf _ _) 64 [.int .i64 0,.int .i64 0,.int .i64 0,.int .i64 0,.int .i64 0,.int .i64 0,.int .i64 0,.slice none 0 0,.int .i64 0,.int .i64 0,.int .i64 0,.int .i64 0,.int .i64 0,.bool false,.int .i64 0,.slice none 0 0,.slice none 0 0,.slice none 0 0,.slice none 0 0,.int .i64 0])
      change Hid (Out _ _ _ wo (w_a14.alloc (.cells #[.int .i64 0,.int .i64 0,.int .i64 0,.int .i64 0,.int .i64 0,.int .i64 0,.int .i64 0,.slice none 0 0,.int .i64 0,.int .i64 0,.int .i64 0,.int .i64 0,.int .i64 0,.bool false,.int .i64 0,.slice none 0 0,.slice none 0 0,.slice none 0 0,.slice none 0 0,.int .i64 0] 64)) _ _ _ _) at HO_abx
      refine hK.out _ _ (hS.next (Below.new _ _)) (λ hS2 => ?_)
      obtain ⟨sb,hsb⟩:∃ b,w_a14.heap.size=b:=⟨_,rfl⟩
      rw [hsb] at HO_abx ⊢
      generalize w_a14.alloc (.cells #[.int .i64 0,.int .i64 0,.int .i64 0,.int .i64 0,.int .i64 0,.int .i64 0,.int .i64 0,.slice none 0 0,.int .i64 0,.int .i64 0,.int .i64 0,.int .i64 0,.int .i64 0,.bool false,.int .i64 0,.slice none 0 0,.slice none 0 0,.slice none 0 0,.slice none 0 0,.int .i64 0] 64)=w_abx at *
      clear hsb
      clear hK K hS
      have hS:=hS2
      clear hS2
      (try simp only [Act.put,List.setIfInBounds_toArray,List.set_cons_zero,List.set_cons_succ])
      refine wpAnyH_ready (rs := [17]) (by kernel_rfl) (by simp) ?_
      refine held_cons rfl (λ K hK => ?_) AllReadyH.nil
      go_simp
      refine (HE0.out.1.1.1 (λ _=>True) w_abx _ _ _ ((MSt.ro _ _ _ _) _ _ _ _ (λ b hb _=>⟨trivial,(Below.next HO.out.bel HO_abx.out.bel).block b hb⟩) HP.out.2.2.2.1) ((SR_st _ _) _ _ _ _ (λ b hb _=>⟨trivial,(Below.next HO.out.bel HO_abx.out.bel).block b hb⟩) HP.out.2.2.2.2.1)).mono ?_;rintro e w_ab17 ⟨pB,cB,bcc,rfl,hr9,hf,hb9⟩
      have HO_ab17:=Lib.hid (HO_abx.out.more (G':=λ A w=>_∧(ROA A w (.slice pB b0.len cB) 20 b0.len bcc∧SF A w b0 bcc)) (MSt.tf _ _) ((MSt.ro _ _ _ _).and (MSt.sf _ _)) hb9 ⟨hr9,hf⟩ (λ _ _ h1 h2=>⟨h1,h2⟩))
      refine hK.out _ _ (hS.next hb9) (λ hS2 => ?_)
      clear hf hb9 hr9
      clear hK K hS
      have hS:=hS2
      clear hS2
      (try simp only [Act.put,List.setIfInBounds_toArray,List.set_cons_zero,List.set_cons_succ])
      refine wpAnyH_ready (rs := [20]) (by kernel_rfl) (by simp) ?_
      refine held_cons rfl (λ K hK => ?_) AllReadyH.nil
      go_simp
      refine (HE0.out.1.1.2 (λ _=>True) w_ab17 _ _ _ ((MSt.ro _ _ _ _) _ _ _ _ (λ b hb _=>⟨trivial,(Below.next HO.out.bel HO_ab17.out.bel).block b hb⟩) HP.out.2.2.2.2.2.1) ((SR_st _ _) _ _ _ _ (λ b hb _=>⟨trivial,(Below.next HO.out.bel HO_ab17.out.bel).block b hb⟩) HP.out.2.2.2.2.2.2)).mono ?_;rintro e w_ab20 ⟨pE,cE,ecc,rfl,hr9,hf,hb9⟩
      have HO_ab20:=Lib.hid (HO_ab17.out.more (G':=λ A w=>_∧(ROA A w (.slice pE e0.len cE) 20 e0.len ecc∧SF A w e0 ecc)) ((MSt.tf _ _).and ((MSt.ro _ _ _ _).and (MSt.sf _ _))) ((MSt.ro _ _ _ _).and (MSt.sf _ _)) hb9 ⟨hr9,hf⟩ (λ _ _ h1 h2=>⟨h1,h2⟩))
      refine hK.out _ _ (hS.next hb9) (λ hS2 => ?_)
      clear hf hb9 hr9
      clear hK K hS
      have hS:=hS2
      clear hS2
      (try simp only [Act.put,List.setIfInBounds_toArray,List.set_cons_zero,List.set_cons_succ])
      refine held_take (i:=23) (v := .agg #[.int .i64 sk,.int .i64 0,.int .i64 0,.int .i64 0,.int .i64 ss,.int .i64 slo,.int .i64 swd,.slice none 0 0,.int .i64 k,.int .i64 op1,.int .i64 hw,.int .i64 s,.int .i64 lo,.bool sg1,.int .i64 vw1,.slice p1 n1 c1,.slice pa1 va.len ca1,.slice pB b0.len cB,.slice pE e0.len cE,.int .i64 sas]) rfl (by kernel_rfl) (by kernel_rfl) (by kernel_rfl) (λ _ _ _ h=>h) (Or.inl ⟨by rfl,?_⟩) (by assumption) ?_
      ·intro w hSw;go_simp;(try with_reducible rfl)
      (try simp only [Act.put,List.setIfInBounds_toArray,List.set_cons_zero,List.set_cons_succ])
      have hS3:=hS
      have HF:Hid (Out 62 9 (λ A w=>(TF A w (.cons ⟨k,hw,s,lo⟩ va .nil) [.int .i64 k,.int .i64 op1,.int .i64 hw,.int .i64 s,.int .i64 lo,.bool sg1,.int .i64 vw1,.slice p1 n1 c1,.slice pa1 va.len ca1]∧(ROA A w (.slice pB b0.len cB) 20 b0.len bcc∧SF A w b0 bcc))∧(ROA A w (.slice pE e0.len cE) 20 e0.len ecc∧SF A w e0 ecc)) wo (w_ab20.setCells sb 0 [.int .i64 sk,.int .i64 0,.int .i64 0,.int .i64 0,.int .i64 ss,.int .i64 slo,.int .i64 swd,.slice none 0 0,.int .i64 k,.int .i64 op1,.int .i64 hw,.int .i64 s,.int .i64 lo,.bool sg1,.int .i64 vw1,.slice p1 n1 c1,.slice pa1 va.len ca1,.slice pB b0.len cB,.slice pE e0.len cE,.int .i64 sas]) [(sb,64, [.int .i64 sk,.int .i64 0,.int .i64 0,.int .i64 0,.int .i64 ss,.int .i64 slo,.int .i64 swd,.slice none 0 0,.int .i64 k,.int .i64 op1,.int .i64 hw,.int .i64 s,.int .i64 lo,.bool sg1,.int .i64 vw1,.slice p1 n1 c1,.slice pa1 va.len ca1,.slice pB b0.len cB,.slice pE e0.len cE,.int .i64 sas]),(xb,81, [.int .i64 sk,.int .i64 ss,.int .i64 slo,.int .i64 swd,.slice pi idx.len ci,.int .i64 k,.int .i64 op,.int .i64 hw,.int .i64 s,.int .i64 lo,.bool sg,.slice pv vl.length cv,.slice pa va.len ca,.slice pb b0.len cb,.slice pe e0.len ce,.int .i64 sas])] (.slice none 0 0) 0 []):=Lib.hid (HO_ab20.out.all (((MSt.tf _ _).and ((MSt.ro _ _ _ _).and (MSt.sf _ _))).and ((MSt.ro _ _ _ _).and (MSt.sf _ _))) 0 rfl [.int .i64 sk,.int .i64 0,.int .i64 0,.int .i64 0,.int .i64 ss,.int .i64 slo,.int .i64 swd,.slice none 0 0,.int .i64 k,.int .i64 op1,.int .i64 hw,.int .i64 s,.int .i64 lo,.bool sg1,.int .i64 vw1,.slice p1 n1 c1,.slice pa1 va.len ca1,.slice pB b0.len cB,.slice pE e0.len cE,.int .i64 sas] rfl)
      refine wpAnyH_ready (rs := [25]) (by kernel_rfl) (by simp) ?_
      refine held_cons rfl (λ K hK => ?_) AllReadyH.nil
      refine step_store rfl _ _ _ rfl sb [.int .i64 sk,.int .i64 0,.int .i64 0,.int .i64 0,.int .i64 ss,.int .i64 slo,.int .i64 swd,.slice none 0 0,.int .i64 k,.int .i64 op1,.int .i64 hw,.int .i64 s,.int .i64 lo,.bool sg1,.int .i64 vw1,.slice p1 n1 c1,.slice pa1 va.len ca1,.slice pB b0.len cB,.slice pE e0.len cE,.int .i64 sas] rfl rfl (HO_ab20.out.at 0 rfl) (by simp) sizeFs (by simp [Value.oneCell']) ?_
      refine hK.out _ _ (HF.out.at 1 rfl) (λ hS2 => ?_)
      clear hK K hS hS3
      (try simp only [Act.put])
      refine wpAnyH_done (by kernel_rfl) ?_ _
      generalize w_ab20.setCells sb 0 [.int .i64 sk,.int .i64 0,.int .i64 0,.int .i64 0,.int .i64 ss,.int .i64 slo,.int .i64 swd,.slice none 0 0,.int .i64 k,.int .i64 op1,.int .i64 hw,.int .i64 s,.int .i64 lo,.bool sg1,.int .i64 vw1,.slice p1 n1 c1,.slice pa1 va.len ca1,.slice pB b0.len cB,.slice pE e0.len cE,.int .i64 sas]=w7 at *
      go_wp2_with fail
      go_meet
      exact ⟨sb,op1,sg1,vw1,p1,n1,c1,pa1,ca1,pB,cB,bcc,pE,cE,ecc,rfl,HF.out⟩
    ·skip
     go_simp
     have HO_abx:=Lib.hid (HO0.out.lay MSt.tt 64 [.int .i64 0,.int .i64 0,.int .i64 0,.int .i64 0,.int .i64 0,.int .i64 0,.int .i64 0,.slice none 0 0,.int .i64 0,.int .i64 0,.int .i64 0,.int .i64 0,.int .i64 0,.bool false,.int .i64 0,.slice none 0 0,.slice none 0 0,.slice none 0 0,.slice none 0 0,.int .i64 0])
     change Hid (Out _ _ _ wo (w5d.alloc (.cells #[.int .i64 0,.int .i64 0,.int .i64 0,.int .i64 0,.int .i64 0,.int .i64 0,.int .i64 0,.slice none 0 0,.int .i64 0,.int .i64 0,.int .i64 0,.int .i64 0,.int .i64 0,.bool false,.int .i64 0,.slice none 0 0,.slice none 0 0,.slice none 0 0,.slice none 0 0,.int .i64 0] 64)) _ _ _ _) at HO_abx
     refine hK.out _ _ (hS.next (Below.new _ _)) (λ hS2 => ?_)
     obtain ⟨sb,hsb⟩:∃ b,w5d.heap.size=b:=⟨_,rfl⟩
     rw [hsb] at HO_abx ⊢
     generalize w5d.alloc (.cells #[.int .i64 0,.int .i64 0,.int .i64 0,.int .i64 0,.int .i64 0,.int .i64 0,.int .i64 0,.slice none 0 0,.int .i64 0,.int .i64 0,.int .i64 0,.int .i64 0,.int .i64 0,.bool false,.int .i64 0,.slice none 0 0,.slice none 0 0,.slice none 0 0,.slice none 0 0,.int .i64 0] 64)=w_abx at *
     clear hsb
     clear hK K hS
     have hS:=hS2
     clear hS2
     (try simp only [Act.put,List.setIfInBounds_toArray,List.set_cons_zero,List.set_cons_succ])
     refine wpAnyH_ready (rs := [14]) (by kernel_rfl) (by simp) ?_
     refine held_cons rfl (λ K hK => ?_) AllReadyH.nil
     go_simp
     refine (x_step HVw.out.2.2.2.2.2.2.1 (x_all HVw.out.2.2.2.2.2.2.2.1) (λ _=>True) w_abx _ ((MSt.tr _ _) _ _ _ _ (λ b hb _=>⟨trivial,(Below.next HO.out.bel HO_abx.out.bel).block b hb⟩) HP.out.1)).mono ?_;rintro e w_ab14 ⟨fc,rfl,hf,hb9⟩
     obtain ⟨op1,sg1,vw1,p1,n1,c1,pa1,ca1,rfl⟩:=tf_form hf
     have HO_ab14:=Lib.hid (HO_abx.out.more (G':=λ A w=>TF A w (.cons ⟨k,hw,s,lo⟩ va .nil) [.int .i64 k,.int .i64 op1,.int .i64 hw,.int .i64 s,.int .i64 lo,.bool sg1,.int .i64 vw1,.slice p1 n1 c1,.slice pa1 va.len ca1]) MSt.tt (MSt.tf _ _) hb9 hf (λ _ _ _ h=>h))
     refine hK.out _ _ (hS.next hb9) (λ hS2 => ?_)
     clear hf hb9
     clear hK K hS
     have hS:=hS2
     clear hS2
     (try simp only [])
     refine wpAnyH_ready (rs := [17]) (by kernel_rfl) (by simp) ?_
     refine held_cons rfl (λ K hK => ?_) AllReadyH.nil
     go_simp
     refine (HE0.out.1.1.1 (λ _=>True) w_ab14 _ _ _ ((MSt.ro _ _ _ _) _ _ _ _ (λ b hb _=>⟨trivial,(Below.next HO.out.bel HO_ab14.out.bel).block b hb⟩) HP.out.2.2.2.1) ((SR_st _ _) _ _ _ _ (λ b hb _=>⟨trivial,(Below.next HO.out.bel HO_ab14.out.bel).block b hb⟩) HP.out.2.2.2.2.1)).mono ?_;rintro e w_ab17 ⟨pB,cB,bcc,rfl,hr9,hf,hb9⟩
     have HO_ab17:=Lib.hid (HO_ab14.out.more (G':=λ A w=>_∧(ROA A w (.slice pB b0.len cB) 20 b0.len bcc∧SF A w b0 bcc)) (MSt.tf _ _) ((MSt.ro _ _ _ _).and (MSt.sf _ _)) hb9 ⟨hr9,hf⟩ (λ _ _ h1 h2=>⟨h1,h2⟩))
     refine hK.out _ _ (hS.next hb9) (λ hS2 => ?_)
     clear hf hb9 hr9
     clear hK K hS
     have hS:=hS2
     clear hS2
     (try simp only [Act.put,List.setIfInBounds_toArray,List.set_cons_zero,List.set_cons_succ])
     refine wpAnyH_ready (rs := [20]) (by kernel_rfl) (by simp) ?_
     refine held_cons rfl (λ K hK => ?_) AllReadyH.nil
     go_simp
     refine (HE0.out.1.1.2 (λ _=>True) w_ab17 _ _ _ ((MSt.ro _ _ _ _) _ _ _ _ (λ b hb _=>⟨trivial,(Below.next HO.out.bel HO_ab17.out.bel).block b hb⟩) HP.out.2.2.2.2.2.1) ((SR_st _ _) _ _ _ _ (λ b hb _=>⟨trivial,(Below.next HO.out.bel HO_ab17.out.bel).block b hb⟩) HP.out.2.2.2.2.2.2)).mono ?_;rintro e w_ab20 ⟨pE,cE,ecc,rfl,hr9,hf,hb9⟩
     have HO_ab20:=Lib.hid (HO_ab17.out.more (G':=λ A w=>_∧(ROA A w (.slice pE e0.len cE) 20 e0.len ecc∧SF A w e0 ecc)) ((MSt.tf _ _).and ((MSt.ro _ _ _ _).and (MSt.sf _ _))) ((MSt.ro _ _ _ _).and (MSt.sf _ _)) hb9 ⟨hr9,hf⟩ (λ _ _ h1 h2=>⟨h1,h2⟩))
     refine hK.out _ _ (hS.next hb9) (λ hS2 => ?_)
     clear hf hb9 hr9
     clear hK K hS
     have hS:=hS2
     clear hS2
     (try simp only [Act.put,List.setIfInBounds_toArray,List.set_cons_zero,List.set_cons_succ])
     refine held_take (i:=23) (v := .agg #[.int .i64 sk,.int .i64 0,.int .i64 0,.int .i64 0,.int .i64 ss,.int .i64 slo,.int .i64 swd,.slice none 0 0,.int .i64 k,.int .i64 op1,.int .i64 hw,.int .i64 s,.int .i64 lo,.bool sg1,.int .i64 vw1,.slice p1 n1 c1,.slice pa1 va.len ca1,.slice pB b0.len cB,.slice pE e0.len cE,.int .i64 sas]) rfl (by kernel_rfl) (by kernel_rfl) (by kernel_rfl) (λ _ _ _ h=>h) (Or.inl ⟨by rfl,?_⟩) (by assumption) ?_
     ·intro w hSw;go_simp;(try with_reducible rfl)
     (try simp only [Act.put,List.setIfInBounds_toArray,List.set_cons_zero,List.set_cons_succ])
     have hS3:=hS
     have HF:Hid (Out 62 9 (λ A w=>(TF A w (.cons ⟨k,hw,s,lo⟩ va .nil) [.int .i64 k,.int .i64 op1,.int .i64 hw,.int .i64 s,.int .i64 lo,.bool sg1,.int .i64 vw1,.slice p1 n1 c1,.slice pa1 va.len ca1]∧(ROA A w (.slice pB b0.len cB) 20 b0.len bcc∧SF A w b0 bcc))∧(ROA A w (.slice pE e0.len cE) 20 e0.len ecc∧SF A w e0 ecc)) wo (w_ab20.setCells sb 0 [.int .i64 sk,.int .i64 0,.int .i64 0,.int .i64 0,.int .i64 ss,.int .i64 slo,.int .i64 swd,.slice none 0 0,.int .i64 k,.int .i64 op1,.int .i64 hw,.int .i64 s,.int .i64 lo,.bool sg1,.int .i64 vw1,.slice p1 n1 c1,.slice pa1 va.len ca1,.slice pB b0.len cB,.slice pE e0.len cE,.int .i64 sas]) [(sb,64, [.int .i64 sk,.int .i64 0,.int .i64 0,.int .i64 0,.int .i64 ss,.int .i64 slo,.int .i64 swd,.slice none 0 0,.int .i64 k,.int .i64 op1,.int .i64 hw,.int .i64 s,.int .i64 lo,.bool sg1,.int .i64 vw1,.slice p1 n1 c1,.slice pa1 va.len ca1,.slice pB b0.len cB,.slice pE e0.len cE,.int .i64 sas]),(xb,81, [.int .i64 sk,.int .i64 ss,.int .i64 slo,.int .i64 swd,.slice pi idx.len ci,.int .i64 k,.int .i64 op,.int .i64 hw,.int .i64 s,.int .i64 lo,.bool sg,.slice pv vl.length cv,.slice pa va.len ca,.slice pb b0.len cb,.slice pe e0.len ce,.int .i64 sas])] (.slice none 0 0) 0 []):=Lib.hid (HO_ab20.out.all (((MSt.tf _ _).and ((MSt.ro _ _ _ _).and (MSt.sf _ _))).and ((MSt.ro _ _ _ _).and (MSt.sf _ _))) 0 rfl [.int .i64 sk,.int .i64 0,.int .i64 0,.int .i64 0,.int .i64 ss,.int .i64 slo,.int .i64 swd,.slice none 0 0,.int .i64 k,.int .i64 op1,.int .i64 hw,.int .i64 s,.int .i64 lo,.bool sg1,.int .i64 vw1,.slice p1 n1 c1,.slice pa1 va.len ca1,.slice pB b0.len cB,.slice pE e0.len cE,.int .i64 sas] rfl)
     refine wpAnyH_ready (rs := [25]) (by kernel_rfl) (by simp) ?_
     refine held_cons rfl (λ K hK => ?_) AllReadyH.nil
     refine step_store rfl _ _ _ rfl sb [.int .i64 sk,.int .i64 0,.int .i64 0,.int .i64 0,.int .i64 ss,.int .i64 slo,.int .i64 swd,.slice none 0 0,.int .i64 k,.int .i64 op1,.int .i64 hw,.int .i64 s,.int .i64 lo,.bool sg1,.int .i64 vw1,.slice p1 n1 c1,.slice pa1 va.len ca1,.slice pB b0.len cB,.slice pE e0.len cE,.int .i64 sas] rfl rfl (HO_ab20.out.at 0 rfl) (by simp) sizeFs (by simp [Value.oneCell']) ?_
     refine hK.out _ _ (HF.out.at 1 rfl) (λ hS2 => ?_)
     clear hK K hS hS3
     (try simp only [Act.put])
     refine wpAnyH_done (by kernel_rfl) ?_ _
     generalize w_ab20.setCells sb 0 [.int .i64 sk,.int .i64 0,.int .i64 0,.int .i64 0,.int .i64 ss,.int .i64 slo,.int .i64 swd,.slice none 0 0,.int .i64 k,.int .i64 op1,.int .i64 hw,.int .i64 s,.int .i64 lo,.bool sg1,.int .i64 vw1,.slice p1 n1 c1,.slice pa1 va.len ca1,.slice pB b0.len cB,.slice pE e0.len cE,.int .i64 sas]=w7 at *
     go_wp2_with fail
     go_meet
     exact ⟨sb,op1,sg1,vw1,p1,n1,c1,pa1,ca1,pB,cB,bcc,pE,cE,ecc,rfl,HF.out⟩
   case rest =>
    obtain ⟨sb,op1,sg1,vw1,p1,n1,c1,pa1,ca1,pB,cB,bcc,pE,cE,ecc,rfl,hX⟩:=hcut
    have HX:=Lib.hid hX
    clear hX HT5
    obtain ⟨xn,hxn⟩:∃ m,idx.len=m:=⟨_,rfl⟩
    have HXn:=Lib.hid hxn
    have x4:=(HX.out.at 1 rfl).cell (i:=4) rfl
    rw [hxn] at x4
    clear hxn
    go_wp2_with fail
    go_loopw [43] (λ jv wr=>∃ (j:Nat) (ti ri:TL) (vi:Value) (ioc:List Value),jv = .int .i64 (j:Nat)∧ti.len=j∧ti.app ri=idx∧AllT XC ri∧ri.wf n∧TR (λ k=>k<w.heap.size) w ri (ic.drop (j*8))∧Out 62 9 (λ A w=>TF A w ti ioc∧((TF A w (.cons ⟨k,hw,s,lo⟩ va .nil) [.int .i64 k,.int .i64 op1,.int .i64 hw,.int .i64 s,.int .i64 lo,.bool sg1,.int .i64 vw1,.slice p1 n1 c1,.slice pa1 va.len ca1]∧(ROA A w (.slice pB b0.len cB) 20 b0.len bcc∧SF A w b0 bcc))∧(ROA A w (.slice pE e0.len cE) 20 e0.len ecc∧SF A w e0 ecc))) wo wr [(sb,64, [.int .i64 sk,.int .i64 0,.int .i64 0,.int .i64 0,.int .i64 ss,.int .i64 slo,.int .i64 swd,vi,.int .i64 k,.int .i64 op1,.int .i64 hw,.int .i64 s,.int .i64 lo,.bool sg1,.int .i64 vw1,.slice p1 n1 c1,.slice pa1 va.len ca1,.slice pB b0.len cB,.slice pE e0.len cE,.int .i64 sas]),(xb,81, [.int .i64 sk,.int .i64 ss,.int .i64 slo,.int .i64 swd,.slice pi idx.len ci,.int .i64 k,.int .i64 op,.int .i64 hw,.int .i64 s,.int .i64 lo,.bool sg,.slice pv vl.length cv,.slice pa va.len ca,.slice pb b0.len cb,.slice pe e0.len ce,.int .i64 sas])] (vi) j ioc) (λ jv _=>xn-(intOf jv).toNat)
    case atStart=>exact ⟨0,.nil,idx,.slice none 0 0, [],rfl,rfl,rfl,x_all HE0.out.2.1.1.2.2.2.2.2.2.1,HE0.out.2.1.1.2.2.2.2.2.2.1,by simpa using HP.out.2.2.1,.start ((MSt.tf _ _).and (((MSt.tf _ _).and ((MSt.ro _ _ _ _).and (MSt.sf _ _))).and ((MSt.ro _ _ _ _).and (MSt.sf _ _)))) HX.out.tr ⟨rfl,(((MSt.tf _ _).and ((MSt.ro _ _ _ _).and (MSt.sf _ _))).and ((MSt.ro _ _ _ _).and (MSt.sf _ _))).mono (λ b hb=>⟨hb.1,hb.2.2⟩) HX.out.g⟩⟩
    case round =>
     obtain ⟨j,ti,ri,vi,ioc,rfl,htj,htr,hAl,hwf,hTr,hO⟩:=hrel
     obtain ⟨vip,vic,rfl⟩:=ownsRow_form hO.own
     have HJ:=Lib.hid hO
     have HLj:=Lib.hid (And.intro htj (And.intro htr hwf))
     have hln:j+ri.len=xn:=by have h:=HXn.out;rw [←htr,TL.app_len] at h;omega
     clear hO x4
     by_cases hlt:j<xn
     ·obtain ⟨h1,b1,r1,rfl⟩:∃ h0 b0 r0,ri = .cons h0 b0 r0:=by
       cases ri with
       | nil=>simp only [TL.len] at hln;omega
       | cons h0 b0 r0=>exact ⟨h0,b0,r0,rfl⟩
      obtain ⟨op2,sg2,val2,vl2,av2,bc2,hat,hv2,hr2,_,hone,hrest⟩:=tr_at hTr
      obtain ⟨pv2,cv2,rfl,_⟩:=hv2.form
      obtain ⟨pa2,ca2,rfl,_⟩:=hr2.form
      have hra:RO wr (.slice pi xn ci) 8 xn ic:=by
       have h:=(MSt.ro _ _ _ _) _ (λ _=>True) _ wr (λ b hb _=>⟨trivial,(Below.next HO.out.bel HJ.out.bel).block b hb⟩) HP.out.2.1
       rw [HXn.out] at h
       exact h.ro
      obtain ⟨ib,io,rfl⟩:=hra.sl (hat 0 (by omega))
      obtain ⟨k2,hw2,s2,lo2⟩:=h1
      obtain ⟨vn2,hvn2⟩:∃ n,vl2.length=n:=⟨_,rfl⟩
      obtain ⟨an2,han2⟩:∃ n,b1.len=n:=⟨_,rfl⟩
      rw [hvn2,han2] at hone hat
      dsimp only [tcells] at hone hat
      have hrg:wr.rangeAt ib (io+j*8) [.int .i64 k2,.int .i64 op2,.int .i64 hw2,.int .i64 s2,.int .i64 lo2,.bool sg2,.slice pv2 vn2 cv2,.slice pa2 an2 ca2]:=λ q v hj=>by
       have hj8:q<8:=by have:=(List.getElem?_eq_some_iff.1 hj).1;simpa using this
       have:=hra.cell ((hat q hj8).trans hj)
       rwa [←Nat.add_assoc] at this
      have hjj:(j:Int)<(xn:Int):=by omega
      have hj0:(0:Int)≤(j:Int):=by omega
      have HXl:=Lib.hid (show xn≤1000 by rw [←HXn.out];exact HE0.out.2.1.1.2.2.2.2.2.1)
      have hjw:IntKind.i64.wrap ((j:Int)+1)=((j+1:Nat):Int):=by rw [i64_of (by have:=HXl.out;omega)];rfl
      have HE2:=Lib.hid (And.intro hAl (And.intro hone (And.intro hrest hlt)))
      clear hat hv2 hr2 hone hrest hra hTr hAl hwf htj htr hln hlt hvn2 han2
      go_upto_region 9 with (refine wpList_load_mid rfl 76 _ rfl (ib) (io+j*8) rfl [.int .i64 k2,.int .i64 op2,.int .i64 hw2,.int .i64 s2,.int .i64 lo2,.bool sg2,.slice pv2 vn2 cv2,.slice pa2 an2 ca2] _ hrg Try.underlying76 rfl sizeT ?_)
      have HJ5:=Lib.hid (HJ.out.lay ((MSt.tf _ _).and (((MSt.tf _ _).and ((MSt.ro _ _ _ _).and (MSt.sf _ _))).and ((MSt.ro _ _ _ _).and (MSt.sf _ _)))) 76 [.int .i64 k2,.int .i64 op2,.int .i64 hw2,.int .i64 s2,.int .i64 lo2,.bool sg2,.slice pv2 vn2 cv2,.slice pa2 an2 ca2])
      change Hid (Out _ _ _ wo (wr.alloc (.cells #[.int .i64 k2,.int .i64 op2,.int .i64 hw2,.int .i64 s2,.int .i64 lo2,.bool sg2,.slice pv2 vn2 cv2,.slice pa2 an2 ca2] 76)) _ _ _ _) at HJ5
      obtain ⟨yb,hyb⟩:∃ b,wr.heap.size=b:=⟨_,rfl⟩
      rw [hyb] at HJ5 ⊢
      generalize wr.alloc (.cells #[.int .i64 k2,.int .i64 op2,.int .i64 hw2,.int .i64 s2,.int .i64 lo2,.bool sg2,.slice pv2 vn2 cv2,.slice pa2 an2 ca2] 76)=w8 at *
      clear hyb hrg
      have HTr:=Lib.hid (Tr.nil w8)
      have p7:=(HJ5.out.at 1 rfl).cell (i:=7) rfl
      have x0:=(HJ5.out.at 0 rfl).cell (i:=0) rfl
      have x1:=(HJ5.out.at 0 rfl).cell (i:=1) rfl
      have x2:=(HJ5.out.at 0 rfl).cell (i:=2) rfl
      have x3:=(HJ5.out.at 0 rfl).cell (i:=3) rfl
      have x4:=(HJ5.out.at 0 rfl).cell (i:=4) rfl
      have x5:=(HJ5.out.at 0 rfl).cell (i:=5) rfl
      have x6:=(HJ5.out.at 0 rfl).cell (i:=6) rfl
      have x7:=(HJ5.out.at 0 rfl).cell (i:=7) rfl
      refine wp_region_webCR (w0:=w8) [.known (.pointer (some ⟨sb,4,none⟩)),.known (.pointer (some ⟨sb,7,none⟩)),.known (.slice vip j vic),.known (.agg #[.int .i64 k2,.int .i64 op2,.int .i64 hw2,.int .i64 s2,.int .i64 lo2,.bool sg2,.slice pv2 vn2 cv2,.slice pa2 an2 ca2]),.rel (λ v W=>∃ (op3:Int) (sg3:Bool) (vw3:Int) (p3:Option Addr) (n3 c3:Nat) (pa3:Option Addr) (ca3:Nat),v = .agg #[.int .i64 k2,.int .i64 op3,.int .i64 hw2,.int .i64 s2,.int .i64 lo2,.bool sg3,.int .i64 vw3,.slice p3 n3 c3,.slice pa3 b1.len ca3]∧TF (From w8.heap.size) W (.cons ⟨k2,hw2,s2,lo2⟩ b1 .nil) [.int .i64 k2,.int .i64 op3,.int .i64 hw2,.int .i64 s2,.int .i64 lo2,.bool sg3,.int .i64 vw3,.slice p3 n3 c3,.slice pa3 b1.len ca3]) (λ _ => []),.rel (λ v W=>∃ (L:Nat) (op3:Int) (sg3:Bool) (vw3:Int) (p3:Option Addr) (n3 c3:Nat) (pa3:Option Addr) (ca3:Nat),v = .slice (some ⟨L,0,none⟩) 1 1∧Blk W L 62 [.int .i64 k2,.int .i64 op3,.int .i64 hw2,.int .i64 s2,.int .i64 lo2,.bool sg3,.int .i64 vw3,.slice p3 n3 c3,.slice pa3 b1.len ca3]∧TF (From w8.heap.size) W (.cons ⟨k2,hw2,s2,lo2⟩ b1 .nil) [.int .i64 k2,.int .i64 op3,.int .i64 hw2,.int .i64 s2,.int .i64 lo2,.bool sg3,.int .i64 vw3,.slice p3 n3 c3,.slice pa3 b1.len ca3]) (λ _ => [])] [1,1,1,1,1,1] [] 53 4 #[true,true,true,true,true,true,false,false,false,false] (by kernel_rfl) (by kernel_rfl) rfl rfl rfl (Nat.le_of_ble_eq_true rfl) ⟨Sp.Mono.known,Sp.Mono.known,Sp.Mono.known,Sp.Mono.known,(λ _ _ _ hb ⟨op3,sg3,vw3,p3,n3,c3,pa3,ca3,h1,h2⟩=>⟨op3,sg3,vw3,p3,n3,c3,pa3,ca3,h1,MSt.tf _ _ _ _ _ _ (λ b hb1 hb2=>⟨hb1,hb.block b hb2⟩) h2⟩),(λ _ _ _ hb ⟨L,op3,sg3,vw3,p3,n3,c3,pa3,ca3,h1,h3,h2⟩=>⟨L,op3,sg3,vw3,p3,n3,c3,pa3,ca3,h1,h3.next hb,MSt.tf _ _ _ _ _ _ (λ b hb1 hb2=>⟨hb1,hb.block b hb2⟩) h2⟩),trivial⟩ HTr.out.drew (λ _ _ _ _ _ h=>h) (A := ?_) ?_ ?_ ?_
      rotate_left
      ·intro u
       simp only [fillC,Sp.val,Nat.reduceBEq,cond_false,Act.put,List.setIfInBounds_toArray,List.set_cons_zero,List.set_cons_succ]
       rfl
      iterate 4 (refine ob_yes (web_op (o:=_) rfl (λ u W hT hd Q K hK => ?_)) ?_;· (have cc0:=aft p7 hT.bel;have cc1:=aft x0 hT.bel;have cc2:=aft x1 hT.bel;have cc3:=aft x2 hT.bel;have cc4:=aft x3 hT.bel;have cc5:=aft x4 hT.bel;have cc6:=aft x5 hT.bel;have cc7:=aft x6 hT.bel;have cc8:=aft x7 hT.bel;go_simp;exact hK.out _ _ (Below.refl _ _) rfl (λ p hp=>by cases hp) List.nodup_nil))
      refine ob_yes (web_op (o:=_) rfl (λ u W hT hd Q K hK => ?_)) ?_
      ·(try simp only [Act.put,List.setIfInBounds_toArray,List.set_cons_zero,List.set_cons_succ] at hK)
       have cc0:=aft p7 hT.bel
       have cc1:=aft x0 hT.bel
       have cc2:=aft x1 hT.bel
       have cc3:=aft x2 hT.bel
       have cc4:=aft x3 hT.bel
       have cc5:=aft x4 hT.bel
       have cc6:=aft x5 hT.bel
       have cc7:=aft x6 hT.bel
       have cc8:=aft x7 hT.bel
       go_simp
       refine (HE2.out.1.1 _ _ _ ((MSt.tr _ _) _ (λ _=>True) _ W (λ b hb _=>⟨trivial,(Below.next (Below.next HO.out.bel HJ5.out.bel) hT.bel).block b hb⟩) HE2.out.2.1)).mono ?_;rintro e w6 ⟨fc,rfl,hf,hb6⟩
       obtain ⟨op3,sg3,vw3,p3,n3,c3,pa3,ca3,rfl⟩:=tf_form hf
       exact hK.out _ _ hb6 ⟨op3,sg3,vw3,p3,n3,c3,pa3,ca3,rfl,(MSt.tf _ _).mono (λ b hb=>Nat.le_trans hT.bel.size hb) hf⟩ (λ p hp=>by cases hp) List.nodup_nil
      refine ob_yes (web_op (o:=_) rfl (λ u W hT hd Q K hK => ?_)) ?_
      ·have d4:=hd 4 (by kernel_rfl)
       generalize u 4=x4 at *
       obtain ⟨op3,sg3,vw3,p3,n3,c3,pa3,ca3,rfl,hF4⟩:=d4
       (try simp only [Act.put,List.setIfInBounds_toArray,List.set_cons_zero,List.set_cons_succ] at hK)
       have cc0:=aft p7 hT.bel
       have cc1:=aft x0 hT.bel
       have cc2:=aft x1 hT.bel
       have cc3:=aft x2 hT.bel
       have cc4:=aft x3 hT.bel
       have cc5:=aft x4 hT.bel
       have cc6:=aft x5 hT.bel
       have cc7:=aft x6 hT.bel
       have cc8:=aft x7 hT.bel
       go_simp
       exact hK.out _ _ (Below.new _ _) ⟨_,op3,sg3,vw3,p3,n3,c3,pa3,ca3,rfl,Blk.new _ _,MSt.tf _ _ _ _ _ _ (λ b hb1 hb2=>⟨hb1,(Below.new _ _).block b hb2⟩) hF4⟩ (λ p hp=>by cases hp) List.nodup_nil
      exact ob_nil
      intro u wx hT hok
      obtain ⟨h0,h1,h2,h3,h4,h5,_⟩:=hok
      clear h0 h1 h2 h3 h4
      simp only [ownsC,Sp.own,Nat.reduceBEq,cond_false,List.append_nil] at hT
      have d5:=h5 (by kernel_rfl)
      clear h5
      generalize u 5=x5 at *
      obtain ⟨L5,op3,sg3,vw3,p3,n3,c3,pa3,ca3,rfl,hB5,hF5⟩:=d5
      (try dsimp only [List.nil_append,List.cons_append] at hT)
      have HTE:=Lib.hid hT
      clear hT
      clear HTr p7 x0 x1 x2 x3 x4 x5 x6 x7
      refine wpAny_of_held (S:=λ _=>True) _ _ _ _ ?_
      have HY0:=Lib.hid ((HJ5.out.drop ((MSt.tf _ _).and (((MSt.tf _ _).and ((MSt.ro _ _ _ _).and (MSt.sf _ _))).and ((MSt.ro _ _ _ _).and (MSt.sf _ _)))) 1).below ((MSt.tf _ _).and (((MSt.tf _ _).and ((MSt.ro _ _ _ _).and (MSt.sf _ _))).and ((MSt.ro _ _ _ _).and (MSt.sf _ _)))) HTE.out.bel)
      have hoa:=HY0.out.own
      have hbz:=HY0.out.bel.size
      have hj1000:j+1≤1001:=by have:=HXl.out;have:=HE2.out.2.2.2;omega
      refine wpAnyH_ready (rs := [6]) (by kernel_rfl) (by simp) ?_
      refine held_cons rfl (λ K hK => ?_) AllReadyH.nil
      refine step_app rfl _ _ 55 rfl TExs wo.heap.size (.slice vip j vic) j ioc rfl hoa L5 1 1 [.int .i64 k2,.int .i64 op3,.int .i64 hw2,.int .i64 s2,.int .i64 lo2,.bool sg3,.int .i64 vw3,.slice p3 n3 c3,.slice pa3 b1.len ca3] rfl #[.int .i64 k2,.int .i64 op3,.int .i64 hw2,.int .i64 s2,.int .i64 lo2,.bool sg3,.int .i64 vw3,.slice p3 n3 c3,.slice pa3 b1.len ca3] hB5 rfl rfl (by simp [Value.oneCell']) Nat.one_pos (by omega) (by omega) hbz ?_
      intro g9 cap9 w9 happ
      refine hK.out _ _ trivial (λ _ => ?_)
      clear hK K
      (try simp only [Act.put,List.setIfInBounds_toArray,List.set_cons_zero,List.set_cons_succ])
      have HW9:Hid (Below w8.heap.size w8 wx∧TF (From w8.heap.size) wx (.cons ⟨k2,hw2,s2,lo2⟩ b1 .nil) [.int .i64 k2,.int .i64 op3,.int .i64 hw2,.int .i64 s2,.int .i64 lo2,.bool sg3,.int .i64 vw3,.slice p3 n3 c3,.slice pa3 b1.len ca3]):=Lib.hid ⟨HTE.out.bel,hF5⟩
      have HY:Hid (Out 62 9 (λ A w=>TF A w (ti.app (.cons ⟨k2,hw2,s2,lo2⟩ b1 .nil)) (ioc ++ [.int .i64 k2,.int .i64 op3,.int .i64 hw2,.int .i64 s2,.int .i64 lo2,.bool sg3,.int .i64 vw3,.slice p3 n3 c3,.slice pa3 b1.len ca3])∧((TF A w (.cons ⟨k,hw,s,lo⟩ va .nil) [.int .i64 k,.int .i64 op1,.int .i64 hw,.int .i64 s,.int .i64 lo,.bool sg1,.int .i64 vw1,.slice p1 n1 c1,.slice pa1 va.len ca1]∧(ROA A w (.slice pB b0.len cB) 20 b0.len bcc∧SF A w b0 bcc))∧(ROA A w (.slice pE e0.len cE) 20 e0.len ecc∧SF A w e0 ecc))) wo w9 [(sb,64, [.int .i64 sk,.int .i64 0,.int .i64 0,.int .i64 0,.int .i64 ss,.int .i64 slo,.int .i64 swd,.slice vip j vic,.int .i64 k,.int .i64 op1,.int .i64 hw,.int .i64 s,.int .i64 lo,.bool sg1,.int .i64 vw1,.slice p1 n1 c1,.slice pa1 va.len ca1,.slice pB b0.len cB,.slice pE e0.len cE,.int .i64 sas]),(xb,81, [.int .i64 sk,.int .i64 ss,.int .i64 slo,.int .i64 swd,.slice (some ⟨ib,io,none⟩) idx.len ci,.int .i64 k,.int .i64 op,.int .i64 hw,.int .i64 s,.int .i64 lo,.bool sg,.slice pv vl.length cv,.slice pa va.len ca,.slice pb b0.len cb,.slice pe e0.len ce,.int .i64 sas])] (.slice (some ⟨g9,0,none⟩) (j+1) cap9) (j+1) (ioc ++ [.int .i64 k2,.int .i64 op3,.int .i64 hw2,.int .i64 s2,.int .i64 lo2,.bool sg3,.int .i64 vw3,.slice p3 n3 c3,.slice pa3 b1.len ca3])):=Lib.hid (
       (((HJ5.out.drop ((MSt.tf _ _).and (((MSt.tf _ _).and ((MSt.ro _ _ _ _).and (MSt.sf _ _))).and ((MSt.ro _ _ _ _).and (MSt.sf _ _)))) 1).more (G':=(λ A w=>TF A w (ti.app (.cons ⟨k2,hw2,s2,lo2⟩ b1 .nil)) (ioc ++ [.int .i64 k2,.int .i64 op3,.int .i64 hw2,.int .i64 s2,.int .i64 lo2,.bool sg3,.int .i64 vw3,.slice p3 n3 c3,.slice pa3 b1.len ca3])∧((TF A w (.cons ⟨k,hw,s,lo⟩ va .nil) [.int .i64 k,.int .i64 op1,.int .i64 hw,.int .i64 s,.int .i64 lo,.bool sg1,.int .i64 vw1,.slice p1 n1 c1,.slice pa1 va.len ca1]∧(ROA A w (.slice pB b0.len cB) 20 b0.len bcc∧SF A w b0 bcc))∧(ROA A w (.slice pE e0.len cE) 20 e0.len ecc∧SF A w e0 ecc)))) ((MSt.tf _ _).and (((MSt.tf _ _).and ((MSt.ro _ _ _ _).and (MSt.sf _ _))).and ((MSt.ro _ _ _ _).and (MSt.sf _ _)))) (MSt.tf _ _) HW9.out.1 HW9.out.2 (λ A W h1 h2=>⟨TG.app h1.1 h2,h1.2⟩)).app ((MSt.tf _ _).and (((MSt.tf _ _).and ((MSt.ro _ _ _ _).and (MSt.sf _ _))).and ((MSt.ro _ _ _ _).and (MSt.sf _ _)))) happ.toR))
      have q7:=(HY.out.at 0 rfl).cell (i:=7) rfl
      have q7f:=(HY.out.at 0 rfl).frz 7
      have HZ:Hid (Out 62 9 (λ A w=>TF A w (ti.app (.cons ⟨k2,hw2,s2,lo2⟩ b1 .nil)) (ioc ++ [.int .i64 k2,.int .i64 op3,.int .i64 hw2,.int .i64 s2,.int .i64 lo2,.bool sg3,.int .i64 vw3,.slice p3 n3 c3,.slice pa3 b1.len ca3])∧((TF A w (.cons ⟨k,hw,s,lo⟩ va .nil) [.int .i64 k,.int .i64 op1,.int .i64 hw,.int .i64 s,.int .i64 lo,.bool sg1,.int .i64 vw1,.slice p1 n1 c1,.slice pa1 va.len ca1]∧(ROA A w (.slice pB b0.len cB) 20 b0.len bcc∧SF A w b0 bcc))∧(ROA A w (.slice pE e0.len cE) 20 e0.len ecc∧SF A w e0 ecc))) wo (w9.setCell ⟨sb,7,none⟩ (.slice (some ⟨g9,0,none⟩) (j+1) cap9)) [(sb,64, [.int .i64 sk,.int .i64 0,.int .i64 0,.int .i64 0,.int .i64 ss,.int .i64 slo,.int .i64 swd,.slice (some ⟨g9,0,none⟩) (j+1) cap9,.int .i64 k,.int .i64 op1,.int .i64 hw,.int .i64 s,.int .i64 lo,.bool sg1,.int .i64 vw1,.slice p1 n1 c1,.slice pa1 va.len ca1,.slice pB b0.len cB,.slice pE e0.len cE,.int .i64 sas]),(xb,81, [.int .i64 sk,.int .i64 ss,.int .i64 slo,.int .i64 swd,.slice (some ⟨ib,io,none⟩) idx.len ci,.int .i64 k,.int .i64 op,.int .i64 hw,.int .i64 s,.int .i64 lo,.bool sg,.slice pv vl.length cv,.slice pa va.len ca,.slice pb b0.len cb,.slice pe e0.len ce,.int .i64 sas])] (.slice (some ⟨g9,0,none⟩) (j+1) cap9) (j+1) (ioc ++ [.int .i64 k2,.int .i64 op3,.int .i64 hw2,.int .i64 s2,.int .i64 lo2,.bool sg3,.int .i64 vw3,.slice p3 n3 c3,.slice pa3 b1.len ca3])):=Lib.hid (HY.out.set ((MSt.tf _ _).and (((MSt.tf _ _).and ((MSt.ro _ _ _ _).and (MSt.sf _ _))).and ((MSt.ro _ _ _ _).and (MSt.sf _ _)))) 0 rfl 7 (.slice (some ⟨g9,0,none⟩) (j+1) cap9))
      clear happ hoa hbz HY0 HY HW9
      refine wpAnyH_ready (rs := [7]) (by kernel_rfl) (by simp) ?_
      refine held_cons rfl (λ K hK => ?_) AllReadyH.nil
      go_simp
      refine hK.out _ _ trivial (λ _ => ?_)
      clear hK K
      (try simp only [List.setIfInBounds_toArray,List.set_cons_zero,List.set_cons_succ])
      refine wpAnyH_ready (rs := [8]) (by kernel_rfl) (by simp) ?_
      refine held_cons rfl (λ K hK => ?_) AllReadyH.nil
      go_simp
      refine hK.out _ _ trivial (λ _ => ?_)
      clear hK K
      (try simp only [List.setIfInBounds_toArray,List.set_cons_zero,List.set_cons_succ])
      refine wpAnyH_ready (rs := [9]) (by kernel_rfl) (by simp) ?_
      refine held_cons rfl (λ K hK => ?_) AllReadyH.nil
      go_simp
      refine hK.out _ _ trivial (λ _ => ?_)
      clear hK K
      (try simp only [List.setIfInBounds_toArray,List.set_cons_zero,List.set_cons_succ])
      refine wpAnyH_done (by kernel_rfl) ?_ _
      generalize w9.setCell ⟨sb,7,none⟩ (.slice (some ⟨g9,0,none⟩) (j+1) cap9)=w10 at *
      clear q7 q7f HTE hB5 hF5 HJ5
      go_wp2_with fail
      go_roundw
      case measure=>simp [intOf];omega
      case rel=>exact ⟨j+1,_,r1,_,_,by go_num,by rw [TL.app_len];have:=HLj.out.1;simp [TL.len];omega,by rw [TL.app_assoc];exact HLj.out.2.1,HE2.out.1.2,HLj.out.2.2.2.2.2.2.2.2.2.2,HE2.out.2.2.1,HZ.out⟩
     ·obtain rfl:ri = .nil:=by
       cases ri with
       | nil=>rfl
       | cons h0 b0 r0=>simp only [TL.len] at hln;omega
      have hjj:¬(j:Int)<(xn:Int):=by simp only [TL.len] at hln;omega
      have eti:ti=idx:=by have:=HLj.out.2.1;rwa [TL.app_nil] at this
      have hjx:j=idx.len:=by rw [←eti];exact HLj.out.1.symm
      subst eti
      clear hlt hln hAl hTr hwf
      have HWs:Hid (SF (From wo.heap.size) wr (SL.cons ⟨sk,ss,slo,swd,sas,ti,⟨k,hw,s,lo⟩,va⟩ b0 e0 .nil) [.int .i64 sk,.int .i64 0,.int .i64 0,.int .i64 0,.int .i64 ss,.int .i64 slo,.int .i64 swd,.slice vip j vic,.int .i64 k,.int .i64 op1,.int .i64 hw,.int .i64 s,.int .i64 lo,.bool sg1,.int .i64 vw1,.slice p1 n1 c1,.slice pa1 va.len ca1,.slice pB b0.len cB,.slice pE e0.len cE,.int .i64 sas]):=Lib.hid ⟨.slice vip j vic,ioc, [.int .i64 k,.int .i64 op1,.int .i64 hw,.int .i64 s,.int .i64 lo,.bool sg1,.int .i64 vw1,.slice p1 n1 c1,.slice pa1 va.len ca1],.slice pB b0.len cB,bcc,.slice pE e0.len cE,ecc, [],rfl,(HJ.out.g.2.1.1.turn EF.stay λ b hb hl=>⟨hb.1,rfl⟩),by rw [show SH.idx ⟨sk,ss,slo,swd,sas,ti,⟨k,hw,s,lo⟩,va⟩=ti from rfl,←hjx];exact (MSt.ro _ _ _ _).mono (λ b hb=>hb.1) HJ.out.row,(MSt.tf _ _).mono (λ b hb=>hb.1) HJ.out.g.1,(MSt.ro _ _ _ _).mono (λ b hb=>hb.1) HJ.out.g.2.1.2.1,(MSt.sf _ _).mono (λ b hb=>hb.1) HJ.out.g.2.1.2.2,(MSt.ro _ _ _ _).mono (λ b hb=>hb.1) HJ.out.g.2.2.1,(MSt.sf _ _).mono (λ b hb=>hb.1) HJ.out.g.2.2.2,rfl⟩
      clear hjx htj htr
      have HO2:=Lib.hid (HO.out.more (G':=(λ A w=>SF A w (t.app (SL.cons ⟨sk,ss,slo,swd,sas,ti,⟨k,hw,s,lo⟩,va⟩ b0 e0 .nil)) (oc ++ [.int .i64 sk,.int .i64 0,.int .i64 0,.int .i64 0,.int .i64 ss,.int .i64 slo,.int .i64 swd,.slice vip j vic,.int .i64 k,.int .i64 op1,.int .i64 hw,.int .i64 s,.int .i64 lo,.bool sg1,.int .i64 vw1,.slice p1 n1 c1,.slice pa1 va.len ca1,.slice pB b0.len cB,.slice pE e0.len cE,.int .i64 sas]))) (MSt.sf _ _) (MSt.sf _ _) HJ.out.bel HWs.out (λ A W h1 h2=>SG.app h1 h2))
      have hoa:=((HO2.out.below (MSt.sf _ _) (Below.new wr (.cells #[.int .i64 sk,.int .i64 0,.int .i64 0,.int .i64 0,.int .i64 ss,.int .i64 slo,.int .i64 swd,.slice vip j vic,.int .i64 k,.int .i64 op1,.int .i64 hw,.int .i64 s,.int .i64 lo,.bool sg1,.int .i64 vw1,.slice p1 n1 c1,.slice pa1 va.len ca1,.slice pB b0.len cB,.slice pE e0.len cE,.int .i64 sas] 64)))).own
      have hbz:=(HO2.out.below (MSt.sf _ _) (Below.new wr (.cells #[.int .i64 sk,.int .i64 0,.int .i64 0,.int .i64 0,.int .i64 ss,.int .i64 slo,.int .i64 swd,.slice vip j vic,.int .i64 k,.int .i64 op1,.int .i64 hw,.int .i64 s,.int .i64 lo,.bool sg1,.int .i64 vw1,.slice p1 n1 c1,.slice pa1 va.len ca1,.slice pB b0.len cB,.slice pE e0.len cE,.int .i64 sas] 64))).bel.size
      have hnw:(wr.alloc (.cells #[.int .i64 sk,.int .i64 0,.int .i64 0,.int .i64 0,.int .i64 ss,.int .i64 slo,.int .i64 swd,.slice vip j vic,.int .i64 k,.int .i64 op1,.int .i64 hw,.int .i64 s,.int .i64 lo,.bool sg1,.int .i64 vw1,.slice p1 n1 c1,.slice pa1 va.len ca1,.slice pB b0.len cB,.slice pE e0.len cE,.int .i64 sas] 64)).heap[wr.heap.size]? = some (.cells #[.int .i64 sk,.int .i64 0,.int .i64 0,.int .i64 0,.int .i64 ss,.int .i64 slo,.int .i64 swd,.slice vip j vic,.int .i64 k,.int .i64 op1,.int .i64 hw,.int .i64 s,.int .i64 lo,.bool sg1,.int .i64 vw1,.slice p1 n1 c1,.slice pa1 va.len ca1,.slice pB b0.len cB,.slice pE e0.len cE,.int .i64 sas] 64 (0,0)):=heap_alloc_new _ _
      have hrg:=(HJ.out.at 0 rfl).range
      go_wp2_with (first | (refine wpList_load_mid rfl 64 _ rfl (sb) 0 rfl [.int .i64 sk,.int .i64 0,.int .i64 0,.int .i64 0,.int .i64 ss,.int .i64 slo,.int .i64 swd,.slice vip j vic,.int .i64 k,.int .i64 op1,.int .i64 hw,.int .i64 s,.int .i64 lo,.bool sg1,.int .i64 vw1,.slice p1 n1 c1,.slice pa1 va.len ca1,.slice pB b0.len cB,.slice pE e0.len cE,.int .i64 sas] _ hrg Try.underlying64 rfl sizeFs ?_) | (at_builtin;go_must (refine wpList_app rfl _ _ 47 rfl TFss w.heap.size (.slice vop i voc) i oc rfl hoa wr.heap.size 1 1 [.int .i64 sk,.int .i64 0,.int .i64 0,.int .i64 0,.int .i64 ss,.int .i64 slo,.int .i64 swd,.slice vip j vic,.int .i64 k,.int .i64 op1,.int .i64 hw,.int .i64 s,.int .i64 lo,.bool sg1,.int .i64 vw1,.slice p1 n1 c1,.slice pa1 va.len ca1,.slice pB b0.len cB,.slice pE e0.len cE,.int .i64 sas] rfl #[.int .i64 sk,.int .i64 0,.int .i64 0,.int .i64 0,.int .i64 ss,.int .i64 slo,.int .i64 swd,.slice vip j vic,.int .i64 k,.int .i64 op1,.int .i64 hw,.int .i64 s,.int .i64 lo,.bool sg1,.int .i64 vw1,.slice p1 n1 c1,.slice pa1 va.len ca1,.slice pB b0.len cB,.slice pE e0.len cE,.int .i64 sas] hnw rfl rfl (by simp [Value.oneCell']) Nat.one_pos (by have h1:=HA.out.2.2.2;have h2:=HE0.out.2.2.2;omega) (by have h1:=HA.out.2.2.2;have h2:=HE0.out.2.2.2;omega) hbz ?_;intro g9 cap9 w9 happ;have HY:=Lib.hid ((HO2.out.below (MSt.sf _ _) (Below.new _ _)).app (MSt.sf _ _) happ.toR);clear happ)))
      go_roundw
      case measure=>simp [intOf];have:=HE0.out.2.2.2;omega
      case rel=>exact ⟨i+1,_,r0,_,by go_num,by rw [SL.app_len];have:=HL.out.1;simp [SL.len];omega,by rw [SL.app_assoc];exact HL.out.2,HE0.out.1.2,HE0.out.2.1.2.2.2.2.2,HE0.out.2.2.1,HY.out⟩
  ·obtain rfl:r = .nil:=by
    cases r with
    | nil=>rfl
    | cons h0 b0 e0 r0=>simp only [SL.len] at hln;omega
   have hii:¬(i:Int)<(ln:Int):=by simp only [SL.len] at hln;omega
   have eti:t=q:=by have:=HL.out.2;rwa [SL.app_nil] at this
   have hix:i=q.len:=by rw [←eti];exact HL.out.1.symm
   subst eti
   clear hlt hln hAl hTr hwf hti htr
   go_wp2_with fail
   go_ret
   have hti2:=HL.out.1
   subst hti2
   exact ⟨vop,voc,oc,rfl,ROA.mono HO.out.row (λ b hb=>hb.1),SF.mono HO.out.g (λ b hb=>hb.1),HO.out.bel⟩
theorem sts_all {n:Nat}:∀ {t:SL},t.wf n→AllS (λ _ b e=>StsC b∧StsC e) t
 | .nil,_=>trivial
 | .cons h b e r,hw=>⟨⟨sts_step hw.2.1 hw.2.2.2.1 (sts_all hw.2.2.2.1),sts_step hw.2.2.1 hw.2.2.2.2.1 (sts_all hw.2.2.2.2.1)⟩,sts_all hw.2.2.2.2.2⟩
theorem sts_any {n:Nat} {t:SL} (hl:t.len≤1000000) (hw:t.wf n):StsC t:=sts_step hl hw (sts_all hw)
end Go.Proofs.Ytlklleaocbnbcaa
