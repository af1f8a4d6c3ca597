import Derived.Test.YtlklleaocbnbcaaZ23
namespace Go.Proofs.Ytlklleaocbnbcaa
set_option linter.unusedVariables false
open Go.RowKit Go.Sort
def kBad1 (kd k:Nat):Bool := !decide (kd=3) && (decide (k=2) || decide (k=4))
def kBad2 (l:List Sg) (kd:Nat) (h:SH):Bool:=(decide (h.k=1) && decide (0<(l.getD h.s default).words)) || (decide (kd=1) && decide (0<h.idx.len))
def kOk (l:List Sg) (kd:Nat) (h:SH):Prop:=kBad1 kd h.k=false∧(h.k=1∨h.k=2→kBad2 l kd h=false)
theorem Ck.blk0 {ab:Nat} {h:AHd} {w0 W:World} {e0:Int} {ls:Bx} {C:Prop} (hc:Ck ab h w0 e0 ls C W) {b t:Nat} {l:List Value} (hb:Blk w0 b t l) (hn:b≠ab):Blk W b t l:=by
 unfold Blk at hb ⊢
 rw [hc.old (some_lt hb) hn];exact hb
theorem clocked_b {w:World} (kd q1 q2 q3:Nat) (p:Option Addr) (n c:Nat) {cb:Bool} (h:decide (kd=3)=cb):Calls Try.prog 48 #[.agg #[.int .i64 kd,.int .i64 q1,.int .i64 q2,.int .i64 q3,.slice p n c]] w λ e w'=>e = .returned (.bool cb)∧Below w.heap.size w w':=by
 rw [←h];exact clocked_any kd q1 q2 q3 _ ⟨p,n,c,rfl⟩
set_option maxRecDepth 100000 in
set_option maxHeartbeats 8000000 in
theorem kinds1_any {ab xa xp base:Nat} {hd:AHd} {w0:World} {e0:Int} {l:List Sg} {sp:Option Addr} {sc kd p1 p2 p3:Nat} {bp:Option Addr} {bn bcp:Nat} (hA:Blk w0 xa 100 [.pointer (some ⟨ab,0,none⟩)]) (hP:Blk w0 xp 49 [.int .i64 kd,.int .i64 p1,.int .i64 p2,.int .i64 p3,.slice bp bn bcp])
  (hna:xa≠ab) (hnp:xp≠ab) (hbase:base≤ab) (hsg:SgsM base w0 sp sc l) (hh:hd.sg = .slice sp l.length sc) {d:List SH} {ks:Bx} {W:World} {h:SH} {b e:SL} {cs:List Value}
  (hS:Ck ab hd w0 e0 ks (∀ x∈d,kOk l kd x) W) (hw:h.wf l.length) (hs:SF (λ q=>q<base) w0 (.cons h b e .nil) cs) :
  Calls Try.prog 46 #[.agg cs.toArray,.pointer (some ⟨xa,0,none⟩),.pointer (some ⟨xp,0,none⟩)] W λ en w'=>en = .returned (.tuple #[])∧Ck ab hd w0 e0 ks (∀ x∈d ++ [h],kOk l kd x) w':=by
 obtain ⟨op,sg,vw,pv,vn,vc,pa,ca,pi,ci,ic,pb,cb,bc,pe,ce,ec,rfl,_,_,_,_⟩:=sf_one hs
 obtain ⟨N,hN⟩:∃ n,l.length=n:=⟨_,rfl⟩
 obtain ⟨xn,hxn⟩:∃ n,h.idx.len=n:=⟨_,rfl⟩
 obtain ⟨y,hy⟩:∃ y,l[h.s]? = some y:=⟨_,List.getElem?_eq_getElem hw.2.1⟩
 have hyd:l.getD h.s default=y:=by rw [List.getD,hy];rfl
 have hlast:(∀ x∈d ++ [h],kOk l kd x)↔((∀ x∈d,kOk l kd x)∧kOk l kd h):=by
  constructor
  ·exact λ hx=>⟨λ x hm=>hx x (List.mem_append_left _ hm),hx h (by simp)⟩
  ·rintro ⟨h1,h2⟩ x hm
   rcases List.mem_append.1 hm with hm | hm
   ·exact h1 x hm
   ·obtain rfl:x=h:=by simpa using hm
    exact h2
 have hko:kOk l kd h↔(kBad1 kd h.k=false∧(h.k=1∨h.k=2→((decide (h.k=1) && decide (0<y.words)) || (decide (kd=1) && decide (0<xn)))=false)):=by
  unfold kOk kBad2;rw [hyd,hxn]
 have hsi:h.s<N:=by rw [←hN];exact hw.2.1
 obtain ⟨sk,ss,slo,swd,sas,idx,⟨vk,vhw,vs,vlo⟩,va⟩:=h
 dsimp only at hxn hy hko hsi ⊢
 rw [hxn]
 have hL:=hS.lay 64 [.int .i64 sk,.int .i64 0,.int .i64 0,.int .i64 0,.int .i64 ss,.int .i64 slo,.int .i64 swd,.slice pi xn ci,.int .i64 vk,.int .i64 op,.int .i64 vhw,.int .i64 vs,.int .i64 vlo,.bool sg,.int .i64 vw,.slice pv vn vc,.slice pa va.len ca,.slice pb b.len cb,.slice pe e.len ce,.int .i64 sas]
 change Ck ab hd w0 e0 _ _ (W.alloc (.cells #[.int .i64 sk,.int .i64 0,.int .i64 0,.int .i64 0,.int .i64 ss,.int .i64 slo,.int .i64 swd,.slice pi xn ci,.int .i64 vk,.int .i64 op,.int .i64 vhw,.int .i64 vs,.int .i64 vlo,.bool sg,.int .i64 vw,.slice pv vn vc,.slice pa va.len ca,.slice pb b.len cb,.slice pe e.len ce,.int .i64 sas] 64)) at hL
 obtain ⟨C1,hC1⟩:∃ C1:Prop,(∀ x∈d ++ [(⟨sk,ss,slo,swd,sas,idx,⟨vk,vhw,vs,vlo⟩,va⟩:SH)],kOk l kd x)=C1:=⟨_,rfl⟩
 rw [hC1] at hlast ⊢
 clear hC1
 obtain ⟨C0,hC0⟩:∃ C0:Prop,(∀ x∈d,kOk l kd x)=C0:=⟨_,rfl⟩
 rw [hC0] at hL hlast
 have H:=Lib.hid (And.intro hL (And.intro hlast (And.intro hko (And.intro hA (And.intro hP (And.intro hna (And.intro hnp (And.intro hsg (And.intro hy (And.intro hbase (And.intro (show hd.sg = .slice sp N sc by rw [hh,hN]) (And.intro hN hsi))))))))))))
 clear hL hlast hko hA hP hna hnp hsg hh hS hw hs hy hyd hC0 hxn hbase hN hsi
 go_enter Try.func46,Try.ntmps46
 go_upto_region 1 with fail
 obtain ⟨xb,hxb⟩:∃ b,W.heap.size=b:=⟨_,rfl⟩
 rw [hxb] at H ⊢
 generalize W.alloc (.cells #[.int .i64 sk,.int .i64 0,.int .i64 0,.int .i64 0,.int .i64 ss,.int .i64 slo,.int .i64 swd,.slice pi xn ci,.int .i64 vk,.int .i64 op,.int .i64 vhw,.int .i64 vs,.int .i64 vlo,.bool sg,.int .i64 vw,.slice pv vn vc,.slice pa va.len ca,.slice pb b.len cb,.slice pe e.len ce,.int .i64 sas] 64)=w1 at *
 clear hxb
 go_cut [] from 4 to 21 (λ wx=>Ck ab hd w0 e0 ((xb,64, [.int .i64 sk,.int .i64 0,.int .i64 0,.int .i64 0,.int .i64 ss,.int .i64 slo,.int .i64 swd,.slice pi xn ci,.int .i64 vk,.int .i64 op,.int .i64 vhw,.int .i64 vs,.int .i64 vlo,.bool sg,.int .i64 vw,.slice pv vn vc,.slice pa va.len ca,.slice pb b.len cb,.slice pe e.len ce,.int .i64 sas])::ks) (C0∧kBad1 kd sk=false) wx)
 case first =>
  have xa0:=(H.out.1.blk0 H.out.2.2.2.1 H.out.2.2.2.2.2.1).cell (i:=0) rfl
  have xp0:=(H.out.1.blk0 H.out.2.2.2.2.1 H.out.2.2.2.2.2.2.1).cell (i:=0) rfl
  have xp1:=(H.out.1.blk0 H.out.2.2.2.2.1 H.out.2.2.2.2.2.2.1).cell (i:=1) rfl
  have xp2:=(H.out.1.blk0 H.out.2.2.2.2.1 H.out.2.2.2.2.2.2.1).cell (i:=2) rfl
  have xp3:=(H.out.1.blk0 H.out.2.2.2.2.1 H.out.2.2.2.2.2.2.1).cell (i:=3) rfl
  have xp4:=(H.out.1.blk0 H.out.2.2.2.2.1 H.out.2.2.2.2.2.2.1).cell (i:=4) rfl
  have s0:=(H.out.1.at 0 rfl).cell (i:=0) rfl
  obtain ⟨cb3,hcb⟩:∃ c,decide (kd=3)=c:=⟨_,rfl⟩
  obtain ⟨q2,hq2⟩:∃ c,((sk:Int) == 2)=c:=⟨_,rfl⟩
  obtain ⟨q4,hq4⟩:∃ c,((sk:Int) == 4)=c:=⟨_,rfl⟩
  have e2:decide (sk=2)=q2:=by rw [←hq2,Bool.eq_iff_iff];simp;omega
  have e4:decide (sk=4)=q4:=by rw [←hq4,Bool.eq_iff_iff];simp;omega
  have HC:=Lib.hid (λ w=>clocked_b (w:=w) kd p1 p2 p3 bp bn bcp hcb)
  have HB1:Hid (kBad1 kd sk=(!cb3 && (q2 || q4))):=Lib.hid (by unfold kBad1;rw [hcb,e2,e4])
  clear hcb e2 e4
  cases cb3
  case true =>
   clear hq2 hq4
   have HTr:=Lib.hid (Tr.nil w1)
   refine wp_region_webCR (w0:=w1) [.known (.pointer (some ⟨ab,0,none⟩)),.known (.agg #[.int .i64 kd,.int .i64 p1,.int .i64 p2,.int .i64 p3,.slice bp bn bcp]),.known (.bool true),.known (.bool false),.known (.bool false),.known (undef),.known (undef),.known (undef),.known (undef),.known (undef),.known (undef),.known (undef),.known (undef),.known (.bool false),.known (.pointer (some ⟨xp,1,none⟩)),.known (.agg #[.int .i64 p1,.int .i64 p2,.int .i64 p3])] [1,1,1,1,1,1,1,1,1,1,1,1,1,1,1,1] [] 20 1 #[true,true,true,true,true,true,true,true,true,true,true,true,true,true,true,true,false] (by kernel_rfl) (by kernel_rfl) rfl rfl rfl (Nat.le_of_ble_eq_true rfl) ⟨Sp.Mono.known,Sp.Mono.known,Sp.Mono.known,Sp.Mono.known,Sp.Mono.known,Sp.Mono.known,Sp.Mono.known,Sp.Mono.known,Sp.Mono.known,Sp.Mono.known,Sp.Mono.known,Sp.Mono.known,Sp.Mono.known,Sp.Mono.known,Sp.Mono.known,Sp.Mono.known,trivial⟩ HTr.out.drew (λ _ _ _ _ _ h=>h) (A := ?_) ?_ ?_ ?_
   rotate_left
   ·intro u
    simp only [fillC,Sp.val,Nat.reduceBEq,cond_false,Act.put,List.setIfInBounds_toArray,List.set_cons_zero,List.set_cons_succ]
    rfl
   iterate 2 (refine ob_yes (web_op (o:=_) rfl (λ u W hT hd Q K hK => ?_)) ?_;· (have cc0:=aft xa0 hT.bel;have cc1:=aft xp0 hT.bel;have cc2:=aft xp1 hT.bel;have cc3:=aft xp2 hT.bel;have cc4:=aft xp3 hT.bel;have cc5:=aft xp4 hT.bel;have cc6:=aft s0 hT.bel;go_simp;exact hK.out _ _ (Below.refl _ _) rfl (λ p hp=>by cases hp) List.nodup_nil))
   refine ob_yes (web_op (o:=_) rfl (λ u W hT hd Q K hK => ?_)) ?_
   ·(try simp only [Act.put,List.setIfInBounds_toArray,List.set_cons_zero,List.set_cons_succ] at hK)
    have cc0:=aft xa0 hT.bel
    have cc1:=aft xp0 hT.bel
    have cc2:=aft xp1 hT.bel
    have cc3:=aft xp2 hT.bel
    have cc4:=aft xp3 hT.bel
    have cc5:=aft xp4 hT.bel
    have cc6:=aft s0 hT.bel
    go_simp
    refine (HC.out W).mono ?_;rintro e w6 ⟨rfl,hb6⟩
    exact hK.out _ _ hb6 rfl (λ p hp=>by cases hp) List.nodup_nil
   iterate 13 (refine ob_yes (web_op (o:=_) rfl (λ u W hT hd Q K hK => ?_)) ?_;· (have cc0:=aft xa0 hT.bel;have cc1:=aft xp0 hT.bel;have cc2:=aft xp1 hT.bel;have cc3:=aft xp2 hT.bel;have cc4:=aft xp3 hT.bel;have cc5:=aft xp4 hT.bel;have cc6:=aft s0 hT.bel;go_simp;exact hK.out _ _ (Below.refl _ _) rfl (λ p hp=>by cases hp) List.nodup_nil))
   exact ob_nil
   intro u wx hT hok
   obtain ⟨h0,h1,h2,h3,h4,h5,h6,h7,h8,h9,h10,h11,h12,h13,h14,h15,_⟩:=hok
   clear h0 h1 h2 h3 h4 h5 h6 h7 h8 h9 h10 h11 h12 h13 h14 h15
   simp only [ownsC,Sp.own,Nat.reduceBEq,cond_false,List.append_nil] at hT
   (try dsimp only [List.nil_append,List.cons_append] at hT)
   have HTE:=Lib.hid hT
   clear hT
   clear HTr xa0 xp0 xp1 xp2 xp3 xp4 s0
   refine wpAny_of_held (S:=λ _=>True) _ _ _ _ ?_
   refine wpAnyH_ready (rs := [16]) (by kernel_rfl) (by simp) ?_
   refine held_cons rfl (λ K hK => ?_) AllReadyH.nil
   go_simp
   refine (fail_any (H.out.1.below HTE.out.bel) false p1 p2 p3 11 (by decide)).mono ?_;rintro e w6 ⟨rfl,h6⟩
   (try go_simp)
   refine hK.out _ _ trivial (λ _ => ?_)
   clear hK K
   (try simp only [List.setIfInBounds_toArray,List.set_cons_zero,List.set_cons_succ])
   refine wpAnyH_done (by kernel_rfl) ?_ _
   go_wp2_with fail
   go_meet
   refine h6.iff ?_
   rw [HB1.out]
   simp
  case false =>
   cases q2
   case true =>
    clear hq4
    have HTr:=Lib.hid (Tr.nil w1)
    refine wp_region_webCR (w0:=w1) [.known (.pointer (some ⟨ab,0,none⟩)),.known (.agg #[.int .i64 kd,.int .i64 p1,.int .i64 p2,.int .i64 p3,.slice bp bn bcp]),.known (.bool false),.known (.bool true),.known (.bool true),.known (.pointer (some ⟨xb,0,none⟩)),.known (.int .i64 sk),.known (.bool true),.known (.bool true),.known (undef),.known (undef),.known (undef),.known (.bool true),.known (.bool true),.known (.pointer (some ⟨xp,1,none⟩)),.known (.agg #[.int .i64 p1,.int .i64 p2,.int .i64 p3])] [1,1,1,1,1,1,1,1,1,1,1,1,1,1,1,1] [] 20 1 #[true,true,true,true,true,true,true,true,true,true,true,true,true,true,true,true,false] (by kernel_rfl) (by kernel_rfl) rfl rfl rfl (Nat.le_of_ble_eq_true rfl) ⟨Sp.Mono.known,Sp.Mono.known,Sp.Mono.known,Sp.Mono.known,Sp.Mono.known,Sp.Mono.known,Sp.Mono.known,Sp.Mono.known,Sp.Mono.known,Sp.Mono.known,Sp.Mono.known,Sp.Mono.known,Sp.Mono.known,Sp.Mono.known,Sp.Mono.known,Sp.Mono.known,trivial⟩ HTr.out.drew (λ _ _ _ _ _ h=>h) (A := ?_) ?_ ?_ ?_
    rotate_left
    ·intro u
     simp only [fillC,Sp.val,Nat.reduceBEq,cond_false,Act.put,List.setIfInBounds_toArray,List.set_cons_zero,List.set_cons_succ]
     rfl
    iterate 2 (refine ob_yes (web_op (o:=_) rfl (λ u W hT hd Q K hK => ?_)) ?_;· (have cc0:=aft xa0 hT.bel;have cc1:=aft xp0 hT.bel;have cc2:=aft xp1 hT.bel;have cc3:=aft xp2 hT.bel;have cc4:=aft xp3 hT.bel;have cc5:=aft xp4 hT.bel;have cc6:=aft s0 hT.bel;go_simp;exact hK.out _ _ (Below.refl _ _) rfl (λ p hp=>by cases hp) List.nodup_nil))
    refine ob_yes (web_op (o:=_) rfl (λ u W hT hd Q K hK => ?_)) ?_
    ·(try simp only [Act.put,List.setIfInBounds_toArray,List.set_cons_zero,List.set_cons_succ] at hK)
     have cc0:=aft xa0 hT.bel
     have cc1:=aft xp0 hT.bel
     have cc2:=aft xp1 hT.bel
     have cc3:=aft xp2 hT.bel
     have cc4:=aft xp3 hT.bel
     have cc5:=aft xp4 hT.bel
     have cc6:=aft s0 hT.bel
     go_simp
     refine (HC.out W).mono ?_;rintro e w6 ⟨rfl,hb6⟩
     exact hK.out _ _ hb6 rfl (λ p hp=>by cases hp) List.nodup_nil
    iterate 13 (refine ob_yes (web_op (o:=_) rfl (λ u W hT hd Q K hK => ?_)) ?_;· (have cc0:=aft xa0 hT.bel;have cc1:=aft xp0 hT.bel;have cc2:=aft xp1 hT.bel;have cc3:=aft xp2 hT.bel;have cc4:=aft xp3 hT.bel;have cc5:=aft xp4 hT.bel;have cc6:=aft s0 hT.bel;go_simp;exact hK.out _ _ (Below.refl _ _) rfl (λ p hp=>by cases hp) List.nodup_nil))
    exact ob_nil
    intro u wx hT hok
    obtain ⟨h0,h1,h2,h3,h4,h5,h6,h7,h8,h9,h10,h11,h12,h13,h14,h15,_⟩:=hok
    clear h0 h1 h2 h3 h4 h5 h6 h7 h8 h9 h10 h11 h12 h13 h14 h15
    simp only [ownsC,Sp.own,Nat.reduceBEq,cond_false,List.append_nil] at hT
    (try dsimp only [List.nil_append,List.cons_append] at hT)
    have HTE:=Lib.hid hT
    clear hT
    clear HTr xa0 xp0 xp1 xp2 xp3 xp4 s0
    refine wpAny_of_held (S:=λ _=>True) _ _ _ _ ?_
    refine wpAnyH_ready (rs := [16]) (by kernel_rfl) (by simp) ?_
    refine held_cons rfl (λ K hK => ?_) AllReadyH.nil
    go_simp
    refine (fail_any (H.out.1.below HTE.out.bel) true p1 p2 p3 11 (by decide)).mono ?_;rintro e w6 ⟨rfl,h6⟩
    (try go_simp)
    refine hK.out _ _ trivial (λ _ => ?_)
    clear hK K
    (try simp only [List.setIfInBounds_toArray,List.set_cons_zero,List.set_cons_succ])
    refine wpAnyH_done (by kernel_rfl) ?_ _
    go_wp2_with fail
    go_meet
    refine h6.iff ?_
    rw [HB1.out]
    simp
   case false =>
    cases q4
    case true =>
     have HTr:=Lib.hid (Tr.nil w1)
     refine wp_region_webCR (w0:=w1) [.known (.pointer (some ⟨ab,0,none⟩)),.known (.agg #[.int .i64 kd,.int .i64 p1,.int .i64 p2,.int .i64 p3,.slice bp bn bcp]),.known (.bool false),.known (.bool true),.known (.bool true),.known (.pointer (some ⟨xb,0,none⟩)),.known (.int .i64 sk),.known (.bool false),.known (.bool false),.known (.pointer (some ⟨xb,0,none⟩)),.known (.int .i64 sk),.known (.bool true),.known (.bool true),.known (.bool true),.known (.pointer (some ⟨xp,1,none⟩)),.known (.agg #[.int .i64 p1,.int .i64 p2,.int .i64 p3])] [1,1,1,1,1,1,1,1,1,1,1,1,1,1,1,1] [] 20 1 #[true,true,true,true,true,true,true,true,true,true,true,true,true,true,true,true,false] (by kernel_rfl) (by kernel_rfl) rfl rfl rfl (Nat.le_of_ble_eq_true rfl) ⟨Sp.Mono.known,Sp.Mono.known,Sp.Mono.known,Sp.Mono.known,Sp.Mono.known,Sp.Mono.known,Sp.Mono.known,Sp.Mono.known,Sp.Mono.known,Sp.Mono.known,Sp.Mono.known,Sp.Mono.known,Sp.Mono.known,Sp.Mono.known,Sp.Mono.known,Sp.Mono.known,trivial⟩ HTr.out.drew (λ _ _ _ _ _ h=>h) (A := ?_) ?_ ?_ ?_
     rotate_left
     ·intro u
      simp only [fillC,Sp.val,Nat.reduceBEq,cond_false,Act.put,List.setIfInBounds_toArray,List.set_cons_zero,List.set_cons_succ]
      rfl
     iterate 2 (refine ob_yes (web_op (o:=_) rfl (λ u W hT hd Q K hK => ?_)) ?_;· (have cc0:=aft xa0 hT.bel;have cc1:=aft xp0 hT.bel;have cc2:=aft xp1 hT.bel;have cc3:=aft xp2 hT.bel;have cc4:=aft xp3 hT.bel;have cc5:=aft xp4 hT.bel;have cc6:=aft s0 hT.bel;go_simp;exact hK.out _ _ (Below.refl _ _) rfl (λ p hp=>by cases hp) List.nodup_nil))
     refine ob_yes (web_op (o:=_) rfl (λ u W hT hd Q K hK => ?_)) ?_
     ·(try simp only [Act.put,List.setIfInBounds_toArray,List.set_cons_zero,List.set_cons_succ] at hK)
      have cc0:=aft xa0 hT.bel
      have cc1:=aft xp0 hT.bel
      have cc2:=aft xp1 hT.bel
      have cc3:=aft xp2 hT.bel
      have cc4:=aft xp3 hT.bel
      have cc5:=aft xp4 hT.bel
      have cc6:=aft s0 hT.bel
      go_simp
      refine (HC.out W).mono ?_;rintro e w6 ⟨rfl,hb6⟩
      exact hK.out _ _ hb6 rfl (λ p hp=>by cases hp) List.nodup_nil
     iterate 13 (refine ob_yes (web_op (o:=_) rfl (λ u W hT hd Q K hK => ?_)) ?_;· (have cc0:=aft xa0 hT.bel;have cc1:=aft xp0 hT.bel;have cc2:=aft xp1 hT.bel;have cc3:=aft xp2 hT.bel;have cc4:=aft xp3 hT.bel;have cc5:=aft xp4 hT.bel;have cc6:=aft s0 hT.bel;go_simp;exact hK.out _ _ (Below.refl _ _) rfl (λ p hp=>by cases hp) List.nodup_nil))
     exact ob_nil
     intro u wx hT hok
     obtain ⟨h0,h1,h2,h3,h4,h5,h6,h7,h8,h9,h10,h11,h12,h13,h14,h15,_⟩:=hok
     clear h0 h1 h2 h3 h4 h5 h6 h7 h8 h9 h10 h11 h12 h13 h14 h15
     simp only [ownsC,Sp.own,Nat.reduceBEq,cond_false,List.append_nil] at hT
     (try dsimp only [List.nil_append,List.cons_append] at hT)
     have HTE:=Lib.hid hT
     clear hT
     clear HTr xa0 xp0 xp1 xp2 xp3 xp4 s0
     refine wpAny_of_held (S:=λ _=>True) _ _ _ _ ?_
     refine wpAnyH_ready (rs := [16]) (by kernel_rfl) (by simp) ?_
     refine held_cons rfl (λ K hK => ?_) AllReadyH.nil
     go_simp
     refine (fail_any (H.out.1.below HTE.out.bel) true p1 p2 p3 11 (by decide)).mono ?_;rintro e w6 ⟨rfl,h6⟩
     (try go_simp)
     refine hK.out _ _ trivial (λ _ => ?_)
     clear hK K
     (try simp only [List.setIfInBounds_toArray,List.set_cons_zero,List.set_cons_succ])
     refine wpAnyH_done (by kernel_rfl) ?_ _
     go_wp2_with fail
     go_meet
     refine h6.iff ?_
     rw [HB1.out]
     simp
    case false =>
     have HTr:=Lib.hid (Tr.nil w1)
     refine wp_region_webCR (w0:=w1) [.known (.pointer (some ⟨ab,0,none⟩)),.known (.agg #[.int .i64 kd,.int .i64 p1,.int .i64 p2,.int .i64 p3,.slice bp bn bcp]),.known (.bool false),.known (.bool true),.known (.bool true),.known (.pointer (some ⟨xb,0,none⟩)),.known (.int .i64 sk),.known (.bool false),.known (.bool false),.known (.pointer (some ⟨xb,0,none⟩)),.known (.int .i64 sk),.known (.bool false),.known (.bool false),.known (.bool false),.known (.pointer (some ⟨xp,1,none⟩)),.known (.agg #[.int .i64 p1,.int .i64 p2,.int .i64 p3])] [1,1,1,1,1,1,1,1,1,1,1,1,1,1,1,1] [] 20 1 #[true,true,true,true,true,true,true,true,true,true,true,true,true,true,true,true,false] (by kernel_rfl) (by kernel_rfl) rfl rfl rfl (Nat.le_of_ble_eq_true rfl) ⟨Sp.Mono.known,Sp.Mono.known,Sp.Mono.known,Sp.Mono.known,Sp.Mono.known,Sp.Mono.known,Sp.Mono.known,Sp.Mono.known,Sp.Mono.known,Sp.Mono.known,Sp.Mono.known,Sp.Mono.known,Sp.Mono.known,Sp.Mono.known,Sp.Mono.known,Sp.Mono.known,trivial⟩ HTr.out.drew (λ _ _ _ _ _ h=>h) (A := ?_) ?_ ?_ ?_
     rotate_left
     ·intro u
      simp only [fillC,Sp.val,Nat.reduceBEq,cond_false,Act.put,List.setIfInBounds_toArray,List.set_cons_zero,List.set_cons_succ]
      rfl
     iterate 2 (refine ob_yes (web_op (o:=_) rfl (λ u W hT hd Q K hK => ?_)) ?_;· (have cc0:=aft xa0 hT.bel;have cc1:=aft xp0 hT.bel;have cc2:=aft xp1 hT.bel;have cc3:=aft xp2 hT.bel;have cc4:=aft xp3 hT.bel;have cc5:=aft xp4 hT.bel;have cc6:=aft s0 hT.bel;go_simp;exact hK.out _ _ (Below.refl _ _) rfl (λ p hp=>by cases hp) List.nodup_nil))
     refine ob_yes (web_op (o:=_) rfl (λ u W hT hd Q K hK => ?_)) ?_
     ·(try simp only [Act.put,List.setIfInBounds_toArray,List.set_cons_zero,List.set_cons_succ] at hK)
      have cc0:=aft xa0 hT.bel
      have cc1:=aft xp0 hT.bel
      have cc2:=aft xp1 hT.bel
      have cc3:=aft xp2 hT.bel
      have cc4:=aft xp3 hT.bel
      have cc5:=aft xp4 hT.bel
      have cc6:=aft s0 hT.bel
      go_simp
      refine (HC.out W).mono ?_;rintro e w6 ⟨rfl,hb6⟩
      exact hK.out _ _ hb6 rfl (λ p hp=>by cases hp) List.nodup_nil
     iterate 13 (refine ob_yes (web_op (o:=_) rfl (λ u W hT hd Q K hK => ?_)) ?_;· (have cc0:=aft xa0 hT.bel;have cc1:=aft xp0 hT.bel;have cc2:=aft xp1 hT.bel;have cc3:=aft xp2 hT.bel;have cc4:=aft xp3 hT.bel;have cc5:=aft xp4 hT.bel;have cc6:=aft s0 hT.bel;go_simp;exact hK.out _ _ (Below.refl _ _) rfl (λ p hp=>by cases hp) List.nodup_nil))
     exact ob_nil
     intro u wx hT hok
     obtain ⟨h0,h1,h2,h3,h4,h5,h6,h7,h8,h9,h10,h11,h12,h13,h14,h15,_⟩:=hok
     clear h0 h1 h2 h3 h4 h5 h6 h7 h8 h9 h10 h11 h12 h13 h14 h15
     simp only [ownsC,Sp.own,Nat.reduceBEq,cond_false,List.append_nil] at hT
     (try dsimp only [List.nil_append,List.cons_append] at hT)
     have HTE:=Lib.hid hT
     clear hT
     clear HTr xa0 xp0 xp1 xp2 xp3 xp4 s0
     refine wpAny_of_held (S:=λ _=>True) _ _ _ _ ?_
     refine wpAnyH_ready (rs := [16]) (by kernel_rfl) (by simp) ?_
     refine held_cons rfl (λ K hK => ?_) AllReadyH.nil
     go_simp
     refine (fail_any (H.out.1.below HTE.out.bel) false p1 p2 p3 11 (by decide)).mono ?_;rintro e w6 ⟨rfl,h6⟩
     (try go_simp)
     refine hK.out _ _ trivial (λ _ => ?_)
     clear hK K
     (try simp only [List.setIfInBounds_toArray,List.set_cons_zero,List.set_cons_succ])
     refine wpAnyH_done (by kernel_rfl) ?_ _
     go_wp2_with fail
     go_meet
     refine h6.iff ?_
     rw [HB1.out]
     simp
 case rest =>
  have HX:=Lib.hid hcut
  clear hcut
  have s0:=(HX.out.at 0 rfl).cell (i:=0) rfl
  have xa0:=(HX.out.blk0 H.out.2.2.2.1 H.out.2.2.2.2.2.1).cell (i:=0) rfl
  have xp0:=(HX.out.blk0 H.out.2.2.2.2.1 H.out.2.2.2.2.2.2.1).cell (i:=0) rfl
  have xp1:=(HX.out.blk0 H.out.2.2.2.2.1 H.out.2.2.2.2.2.2.1).cell (i:=1) rfl
  have xp2:=(HX.out.blk0 H.out.2.2.2.2.1 H.out.2.2.2.2.2.2.1).cell (i:=2) rfl
  have xp3:=(HX.out.blk0 H.out.2.2.2.2.1 H.out.2.2.2.2.2.2.1).cell (i:=3) rfl
  have s4:=(HX.out.at 0 rfl).cell (i:=4) rfl
  have s7:=(HX.out.at 0 rfl).cell (i:=7) rfl
  have a0:=HX.out.cell (i:=0) (v := .slice sp N sc) (λ _ _ _ _=>congrArg some H.out.2.2.2.2.2.2.2.2.2.2.1)
  have hsg2:=H.out.2.2.2.2.2.2.2.1.low (HX.out.low H.out.2.2.2.2.2.2.2.2.2.1)
  obtain ⟨sb,so,hse⟩:=hsg2.ro.sl (sigCells_at H.out.2.2.2.2.2.2.2.2.1).2.2.2
  subst hse
  have c3:=hsg2.ro.cell (sigCells_at H.out.2.2.2.2.2.2.2.2.1).2.2.2
  rw [←Nat.add_assoc] at c3
  clear hsg2
  have hs1:(ss:Int)<(N:Int):=by have:=H.out.2.2.2.2.2.2.2.2.2.2.2.2;omega
  have hs0:(0:Int)≤(ss:Int):=by omega
  obtain ⟨b1,hb1⟩:∃ c,((sk:Int) == 1)=c:=⟨_,rfl⟩
  obtain ⟨b2,hb2⟩:∃ c,((sk:Int) == 2)=c:=⟨_,rfl⟩
  obtain ⟨bk,hbk⟩:∃ c,((kd:Int) == 1)=c:=⟨_,rfl⟩
  obtain ⟨bw,hbw⟩:∃ c,decide (0<y.words)=c:=⟨_,rfl⟩
  obtain ⟨bi,hbi⟩:∃ c,decide (0<xn)=c:=⟨_,rfl⟩
  have HQ:Hid ((sk=1↔b1=true)∧(sk=2↔b2=true)∧decide (sk=1)=b1∧decide (kd=1)=bk∧decide (0<y.words)=bw∧decide (0<xn)=bi):=Lib.hid (by
   refine ⟨?_,?_,?_,?_,?_,?_⟩
   ·rw [←hb1];simp;omega
   ·rw [←hb2];simp;omega
   ·rw [←hb1,Bool.eq_iff_iff];simp;omega
   ·rw [←hbk,Bool.eq_iff_iff];simp;omega
   ·exact hbw
   ·exact hbi)
  generalize y.words=yw at *
  cases b1
  case true =>
   clear hb2
   cases bw
   case true =>
    have hbw2:(0<yw)=True:=eq_true (by simpa using hbw)
    have hbw3:(yw=0)=False:=eq_false (Nat.ne_of_gt (of_decide_eq_true hbw))
    clear hbk hbi
    go_upto_region 3 with fail
    have HX2:=Lib.hid HX.out.drew
    refine wp_region_still_tail 32 (by kernel_rfl) (by kernel_rfl) ?_
    simp only [List.take_succ_cons,List.take_zero,List.drop_succ_cons,List.drop_zero]
    change wpStill _ _ wc.drew (λ a'=>wpList _ _ _ _ a' wc.drew) _ _
    replace xa0:wc.drew.cell? _=_:=xa0
    replace xp0:wc.drew.cell? _=_:=xp0
    replace xp1:wc.drew.cell? _=_:=xp1
    replace xp2:wc.drew.cell? _=_:=xp2
    replace xp3:wc.drew.cell? _=_:=xp3
    replace s0:wc.drew.cell? _=_:=s0
    replace s4:wc.drew.cell? _=_:=s4
    replace s7:wc.drew.cell? _=_:=s7
    replace a0:wc.drew.cell? _=_:=a0
    replace c3:wc.drew.cell? _=_:=c3
    generalize wc.drew=w5 at *
    refine WS.out ?_
    iterate 32 (refine ws_step (λ K hK => ?_);go_simp;refine hK _ ?_;clear hK K)
    refine ws_nil ?_
    clear xa0 xp0 xp1 xp2 xp3 s0 s4 s7 a0 c3
    go_wp2_with fail
    refine (fail_any HX2.out true p1 p2 p3 11 (by decide)).mono ?_;rintro e w6 ⟨rfl,h6⟩
    go_wp2_with fail
    go_end0
    refine ⟨rfl,Ck.iff (Ck.drop h6 1) ?_⟩
    rw [H.out.2.1,H.out.2.2.1,HQ.out.2.2.1,HQ.out.2.2.2.1,HQ.out.2.2.2.2.1,HQ.out.2.2.2.2.2,HQ.out.1,HQ.out.2.1]
    simp
   case false =>
    have hbw2:(0<yw)=False:=eq_false (by simpa using hbw)
    have hbw3:(yw=0)=True:=eq_true (by simpa using hbw)
    cases bk
    case true =>
     cases bi
     case true =>
      have hbi2:(0<xn)=True:=eq_true (by simpa using hbi)
      have hbi3:(xn=0)=False:=eq_false (Nat.ne_of_gt (of_decide_eq_true hbi))
      go_upto_region 3 with fail
      have HX2:=Lib.hid HX.out.drew
      refine wp_region_still_tail 32 (by kernel_rfl) (by kernel_rfl) ?_
      simp only [List.take_succ_cons,List.take_zero,List.drop_succ_cons,List.drop_zero]
      change wpStill _ _ wc.drew (λ a'=>wpList _ _ _ _ a' wc.drew) _ _
      replace xa0:wc.drew.cell? _=_:=xa0
      replace xp0:wc.drew.cell? _=_:=xp0
      replace xp1:wc.drew.cell? _=_:=xp1
      replace xp2:wc.drew.cell? _=_:=xp2
      replace xp3:wc.drew.cell? _=_:=xp3
      replace s0:wc.drew.cell? _=_:=s0
      replace s4:wc.drew.cell? _=_:=s4
      replace s7:wc.drew.cell? _=_:=s7
      replace a0:wc.drew.cell? _=_:=a0
      replace c3:wc.drew.cell? _=_:=c3
      generalize wc.drew=w5 at *
      refine WS.out ?_
      iterate 32 (refine ws_step (λ K hK => ?_);go_simp;refine hK _ ?_;clear hK K)
      refine ws_nil ?_
      clear xa0 xp0 xp1 xp2 xp3 s0 s4 s7 a0 c3
      go_wp2_with fail
      refine (fail_any HX2.out true p1 p2 p3 11 (by decide)).mono ?_;rintro e w6 ⟨rfl,h6⟩
      go_wp2_with fail
      go_end0
      refine ⟨rfl,Ck.iff (Ck.drop h6 1) ?_⟩
      rw [H.out.2.1,H.out.2.2.1,HQ.out.2.2.1,HQ.out.2.2.2.1,HQ.out.2.2.2.2.1,HQ.out.2.2.2.2.2,HQ.out.1,HQ.out.2.1]
      simp
     case false =>
      have hbi2:(0<xn)=False:=eq_false (by simpa using hbi)
      have hbi3:(xn=0)=True:=eq_true (by simpa using hbi)
      go_upto_region 3 with fail
      have HX2:=Lib.hid HX.out.drew
      refine wp_region_still_tail 32 (by kernel_rfl) (by kernel_rfl) ?_
      simp only [List.take_succ_cons,List.take_zero,List.drop_succ_cons,List.drop_zero]
      change wpStill _ _ wc.drew (λ a'=>wpList _ _ _ _ a' wc.drew) _ _
      replace xa0:wc.drew.cell? _=_:=xa0
      replace xp0:wc.drew.cell? _=_:=xp0
      replace xp1:wc.drew.cell? _=_:=xp1
      replace xp2:wc.drew.cell? _=_:=xp2
      replace xp3:wc.drew.cell? _=_:=xp3
      replace s0:wc.drew.cell? _=_:=s0
      replace s4:wc.drew.cell? _=_:=s4
      replace s7:wc.drew.cell? _=_:=s7
      replace a0:wc.drew.cell? _=_:=a0
      replace c3:wc.drew.cell? _=_:=c3
      generalize wc.drew=w5 at *
      refine WS.out ?_
      iterate 32 (refine ws_step (λ K hK => ?_);go_simp;refine hK _ ?_;clear hK K)
      refine ws_nil ?_
      clear xa0 xp0 xp1 xp2 xp3 s0 s4 s7 a0 c3
      go_wp2_with fail
      refine (fail_any HX2.out false p1 p2 p3 11 (by decide)).mono ?_;rintro e w6 ⟨rfl,h6⟩
      go_wp2_with fail
      go_end0
      refine ⟨rfl,Ck.iff (Ck.drop h6 1) ?_⟩
      rw [H.out.2.1,H.out.2.2.1,HQ.out.2.2.1,HQ.out.2.2.2.1,HQ.out.2.2.2.2.1,HQ.out.2.2.2.2.2,HQ.out.1,HQ.out.2.1]
      simp
    case false =>
     clear hbi
     go_upto_region 3 with fail
     have HX2:=Lib.hid HX.out.drew
     refine wp_region_still_tail 32 (by kernel_rfl) (by kernel_rfl) ?_
     simp only [List.take_succ_cons,List.take_zero,List.drop_succ_cons,List.drop_zero]
     change wpStill _ _ wc.drew (λ a'=>wpList _ _ _ _ a' wc.drew) _ _
     replace xa0:wc.drew.cell? _=_:=xa0
     replace xp0:wc.drew.cell? _=_:=xp0
     replace xp1:wc.drew.cell? _=_:=xp1
     replace xp2:wc.drew.cell? _=_:=xp2
     replace xp3:wc.drew.cell? _=_:=xp3
     replace s0:wc.drew.cell? _=_:=s0
     replace s4:wc.drew.cell? _=_:=s4
     replace s7:wc.drew.cell? _=_:=s7
     replace a0:wc.drew.cell? _=_:=a0
     replace c3:wc.drew.cell? _=_:=c3
     generalize wc.drew=w5 at *
     refine WS.out ?_
     iterate 32 (refine ws_step (λ K hK => ?_);go_simp;refine hK _ ?_;clear hK K)
     refine ws_nil ?_
     clear xa0 xp0 xp1 xp2 xp3 s0 s4 s7 a0 c3
     go_wp2_with fail
     refine (fail_any HX2.out false p1 p2 p3 11 (by decide)).mono ?_;rintro e w6 ⟨rfl,h6⟩
     go_wp2_with fail
     go_end0
     refine ⟨rfl,Ck.iff (Ck.drop h6 1) ?_⟩
     rw [H.out.2.1,H.out.2.2.1,HQ.out.2.2.1,HQ.out.2.2.2.1,HQ.out.2.2.2.2.1,HQ.out.2.2.2.2.2,HQ.out.1,HQ.out.2.1]
     simp
  case false =>
   cases b2
   case true =>
    clear hbw
    cases bk
    case true =>
     cases bi
     case true =>
      have hbi2:(0<xn)=True:=eq_true (by simpa using hbi)
      have hbi3:(xn=0)=False:=eq_false (Nat.ne_of_gt (of_decide_eq_true hbi))
      go_upto_region 3 with fail
      have HX2:=Lib.hid HX.out.drew
      refine wp_region_still_tail 32 (by kernel_rfl) (by kernel_rfl) ?_
      simp only [List.take_succ_cons,List.take_zero,List.drop_succ_cons,List.drop_zero]
      change wpStill _ _ wc.drew (λ a'=>wpList _ _ _ _ a' wc.drew) _ _
      replace xa0:wc.drew.cell? _=_:=xa0
      replace xp0:wc.drew.cell? _=_:=xp0
      replace xp1:wc.drew.cell? _=_:=xp1
      replace xp2:wc.drew.cell? _=_:=xp2
      replace xp3:wc.drew.cell? _=_:=xp3
      replace s0:wc.drew.cell? _=_:=s0
      replace s4:wc.drew.cell? _=_:=s4
      replace s7:wc.drew.cell? _=_:=s7
      replace a0:wc.drew.cell? _=_:=a0
      replace c3:wc.drew.cell? _=_:=c3
      generalize wc.drew=w5 at *
      refine WS.out ?_
      iterate 32 (refine ws_step (λ K hK => ?_);go_simp;refine hK _ ?_;clear hK K)
      refine ws_nil ?_
      clear xa0 xp0 xp1 xp2 xp3 s0 s4 s7 a0 c3
      go_wp2_with fail
      refine (fail_any HX2.out true p1 p2 p3 11 (by decide)).mono ?_;rintro e w6 ⟨rfl,h6⟩
      go_wp2_with fail
      go_end0
      refine ⟨rfl,Ck.iff (Ck.drop h6 1) ?_⟩
      rw [H.out.2.1,H.out.2.2.1,HQ.out.2.2.1,HQ.out.2.2.2.1,HQ.out.2.2.2.2.1,HQ.out.2.2.2.2.2,HQ.out.1,HQ.out.2.1]
      simp
     case false =>
      have hbi2:(0<xn)=False:=eq_false (by simpa using hbi)
      have hbi3:(xn=0)=True:=eq_true (by simpa using hbi)
      go_upto_region 3 with fail
      have HX2:=Lib.hid HX.out.drew
      refine wp_region_still_tail 32 (by kernel_rfl) (by kernel_rfl) ?_
      simp only [List.take_succ_cons,List.take_zero,List.drop_succ_cons,List.drop_zero]
      change wpStill _ _ wc.drew (λ a'=>wpList _ _ _ _ a' wc.drew) _ _
      replace xa0:wc.drew.cell? _=_:=xa0
      replace xp0:wc.drew.cell? _=_:=xp0
      replace xp1:wc.drew.cell? _=_:=xp1
      replace xp2:wc.drew.cell? _=_:=xp2
      replace xp3:wc.drew.cell? _=_:=xp3
      replace s0:wc.drew.cell? _=_:=s0
      replace s4:wc.drew.cell? _=_:=s4
      replace s7:wc.drew.cell? _=_:=s7
      replace a0:wc.drew.cell? _=_:=a0
      replace c3:wc.drew.cell? _=_:=c3
      generalize wc.drew=w5 at *
      refine WS.out ?_
      iterate 32 (refine ws_step (λ K hK => ?_);go_simp;refine hK _ ?_;clear hK K)
      refine ws_nil ?_
      clear xa0 xp0 xp1 xp2 xp3 s0 s4 s7 a0 c3
      go_wp2_with fail
      refine (fail_any HX2.out false p1 p2 p3 11 (by decide)).mono ?_;rintro e w6 ⟨rfl,h6⟩
      go_wp2_with fail
      go_end0
      refine ⟨rfl,Ck.iff (Ck.drop h6 1) ?_⟩
      rw [H.out.2.1,H.out.2.2.1,HQ.out.2.2.1,HQ.out.2.2.2.1,HQ.out.2.2.2.2.1,HQ.out.2.2.2.2.2,HQ.out.1,HQ.out.2.1]
      simp
    case false =>
     clear hbi
     go_upto_region 3 with fail
     have HX2:=Lib.hid HX.out.drew
     refine wp_region_still_tail 32 (by kernel_rfl) (by kernel_rfl) ?_
     simp only [List.take_succ_cons,List.take_zero,List.drop_succ_cons,List.drop_zero]
     change wpStill _ _ wc.drew (λ a'=>wpList _ _ _ _ a' wc.drew) _ _
     replace xa0:wc.drew.cell? _=_:=xa0
     replace xp0:wc.drew.cell? _=_:=xp0
     replace xp1:wc.drew.cell? _=_:=xp1
     replace xp2:wc.drew.cell? _=_:=xp2
     replace xp3:wc.drew.cell? _=_:=xp3
     replace s0:wc.drew.cell? _=_:=s0
     replace s4:wc.drew.cell? _=_:=s4
     replace s7:wc.drew.cell? _=_:=s7
     replace a0:wc.drew.cell? _=_:=a0
     replace c3:wc.drew.cell? _=_:=c3
     generalize wc.drew=w5 at *
     refine WS.out ?_
     iterate 32 (refine ws_step (λ K hK => ?_);go_simp;refine hK _ ?_;clear hK K)
     refine ws_nil ?_
     clear xa0 xp0 xp1 xp2 xp3 s0 s4 s7 a0 c3
     go_wp2_with fail
     refine (fail_any HX2.out false p1 p2 p3 11 (by decide)).mono ?_;rintro e w6 ⟨rfl,h6⟩
     go_wp2_with fail
     go_end0
     refine ⟨rfl,Ck.iff (Ck.drop h6 1) ?_⟩
     rw [H.out.2.1,H.out.2.2.1,HQ.out.2.2.1,HQ.out.2.2.2.1,HQ.out.2.2.2.2.1,HQ.out.2.2.2.2.2,HQ.out.1,HQ.out.2.1]
     simp
   case false =>
    go_wp2_with fail
    go_end0
    have h6:=HX.out
    refine ⟨rfl,Ck.iff (Ck.drop h6 1) ?_⟩
    rw [H.out.2.1,H.out.2.2.1,HQ.out.2.2.1,HQ.out.2.2.2.1,HQ.out.2.2.2.2.1,HQ.out.2.2.2.2.2,HQ.out.1,HQ.out.2.1]
    simp
def Till (g:Nat→Prop) (i:Nat):Prop:=∀ j,j<i→g j
theorem Till.zero (g:Nat→Prop):Till g 0↔True:=⟨λ _=>trivial,λ _ j hj=>absurd hj (Nat.not_lt_zero _)⟩
theorem Till.succ (g:Nat→Prop) (i:Nat):Till g (i+1)↔Till g i∧g i:=by
 refine ⟨λ h=>⟨λ j hj=>h j (by omega),h i (by omega)⟩,λ h j hj => ?_⟩
 by_cases e:j=i
 ·subst e;exact h.2
 ·exact h.1 j (by omega)
theorem blk_inj {w:World} {b t:Nat} {l l':List Value} (h:Blk w b t l) (h':Blk w b t l'):l=l':=by
 unfold Blk at h h'
 rw [h] at h'
 simp only [Option.some.injEq,Obj.cells.injEq,and_true] at h'
 exact (Array.ext' (by simpa using congrArg Array.toList h'):l.toArray=l'.toArray) |> λ e=>by simpa using congrArg Array.toList e
theorem Ck.next {ab:Nat} {h:AHd} {w0 W:World} {e0:Int} {ls:Bx} {C:Prop} (hc:Ck ab h w0 e0 ls C W) :
  ∃ e1,Ck ab h W e1 [] True W∧∀ {ls':Bx} {C1:Prop} {W1:World},Ck ab h W e1 ls' C1 W1→Ck ab h w0 e0 ls (C∧C1) W1:=by
 obtain ⟨p1,p2,p3,e1,hb,hi⟩:=hc.an
 refine ⟨e1,Ck.start hb,λ h1=>hc.trans (λ {q1 q2 q3 e} hb' => ?_) h1⟩
 have:=blk_inj hb hb'
 unfold AHd.cells at this
 simp only [List.cons.injEq,Value.int.injEq,true_and,and_true] at this
 exact this.2.2.2
def kindsC (l:List Sg) (ps:List Pr):Prop:=Till (λ i=>∀ y∈flatS (ps.getD i default).body,kOk l (ps.getD i default).kind y) ps.length
set_option maxRecDepth 100000 in
set_option maxHeartbeats 8000000 in
theorem kinds_any {base ab:Nat} {w:World} {x:AX} {l:List Sg} {ps:List Pr} {il:List Int} {sts:List (Nat × List Bool)} {ro:Value} {p1 p2 p3 e:Int} (hb:Blk w ab 103 ((x.h l.length il.length ps.length sts.length ro).cells p1 p2 p3 e)) (hD:DD base w x l ps il sts) (hbase:base≤ab) :
  Calls Try.prog 24 #[.pointer (some ⟨ab,0,none⟩)] w (FailR ab (x.h l.length il.length ps.length sts.length ro) w e [] (kindsC l ps)):=by
 obtain ⟨sp,sc,lp,ln,lc,ip,ic,op,on,oc,pp,cp,qp,qn,qc,tp,tc,dp,dc,wp,wcc⟩:=x
 obtain ⟨np,hnp⟩:∃ n,ps.length=n:=⟨_,rfl⟩
 have HD:=Lib.hid (And.intro hD (And.intro hnp (And.intro (show np≤1000 by rw [←hnp];exact hD.np) hbase)))
 obtain ⟨h,hh⟩:∃ h,AX.h ⟨sp,sc,lp,ln,lc,ip,ic,op,on,oc,pp,cp,qp,qn,qc,tp,tc,dp,dc,wp,wcc⟩ l.length il.length ps.length sts.length ro=h:=⟨_,rfl⟩
 have HH:Hid (h.pr = .slice pp np cp∧h.sg = .slice sp l.length sc):=Lib.hid (by rw [←hh,←hnp];exact ⟨rfl,rfl⟩)
 rw [hh] at hb ⊢
 unfold kindsC
 rw [hnp]
 obtain ⟨g,hg⟩:∃ g:Nat→Prop,(λ i=>∀ y∈flatS (ps.getD i default).body,kOk l (ps.getD i default).kind y)=g:=⟨_,rfl⟩
 rw [hg]
 have HG:=Lib.hid hg
 have hC:=(Ck.start hb).lay 100 [.pointer (some ⟨ab,0,none⟩)]
 have HC:Hid (Ck ab h w e [(w.heap.size,100, [.pointer (some ⟨ab,0,none⟩)])] (Till g 0) (w.alloc (.cells #[.pointer (some ⟨ab,0,none⟩)] 100))):=Lib.hid (hC.iff (Till.zero g).symm)
 clear hb hD hnp hbase hh hg hC
 go_enter Try.func24,Try.ntmps24
 go_upto_region 1 with fail
 obtain ⟨xa,hxa⟩:∃ b,w.heap.size=b:=⟨_,rfl⟩
 rw [hxa] at HC ⊢
 generalize w.alloc (.cells #[.pointer (some ⟨ab,0,none⟩)] 100)=w1 at *
 have HXa:=Lib.hid hxa
 clear hxa
 have xa0:=(HC.out.at 0 rfl).cell (i:=0) rfl
 have a4:=HC.out.cell (i:=4) (v := .slice pp np cp) (λ _ _ _ _=>congrArg some HH.out.1)
 go_wp2_with fail
 go_loopw [10] (λ iv wr=>∃ i:Nat,iv = .int .i64 i∧i≤np∧Ck ab h w e [(xa,100, [.pointer (some ⟨ab,0,none⟩)])] (Till g i) wr) (λ iv _=>np-(intOf iv).toNat)
 case atStart=>exact ⟨0,rfl,Nat.zero_le _,HC.out⟩
 case round =>
  obtain ⟨i,rfl,hin,hCr⟩:=hrel
  clear xa0 a4
  by_cases hlt:i<np
  ·have hii:(i:Int)<(np:Int):=by omega
   have hi0:(0:Int)≤(i:Int):=by omega
   have hiw:IntKind.i64.wrap ((i:Int)+1)=((i+1:Nat):Int):=by rw [i64_of (by have:=HD.out.2.2.1;omega)];rfl
   obtain ⟨q,hq⟩:∃ q,ps[i]? = some q:=⟨_,List.getElem?_eq_getElem (by rw [HD.out.2.1];exact hlt)⟩
   have hDr:=HD.out.1.low (hCr.low HD.out.2.2.2)
   obtain ⟨b,o,pb,cb,bc,hpp,hrg,hra,hsf⟩:=hDr.at hq
   dsimp only at hpp
   subst hpp
   have hgd:ps.getD i default=q:=by rw [List.getD,hq];rfl
   have hwf:=HD.out.1.wf q (List.mem_of_getElem? hq)
   have hgi:g i↔∀ y∈flatS q.body,kOk l q.kind y:=by rw [←HG.out];show (∀ y∈flatS (ps.getD i default).body,kOk l (ps.getD i default).kind y)↔_;rw [hgd]
   obtain ⟨kd,y1,y2,y3,body⟩:=q
   dsimp only at hrg hra hsf hwf hgi
   obtain ⟨bn,hbn⟩:∃ n,body.len=n:=⟨_,rfl⟩
   rw [hbn] at hrg
   have c0:=hrg 0 _ rfl
   have c1:=hrg 1 _ rfl
   have c2:=hrg 2 _ rfl
   have c3:=hrg 3 _ rfl
   have c4:=hrg 4 _ rfl
   rw [Nat.add_zero] at c0
   have HL:=Lib.hid (hCr.lay 49 [.int .i64 kd,.int .i64 y1,.int .i64 y2,.int .i64 y3,.slice pb bn cb])
   have HDl:=Lib.hid (And.intro hDr (And.intro hra (And.intro hsf (And.intro hwf (And.intro hgi (And.intro hbn hlt))))))
   clear hCr hDr hra hsf hwf hgi hgd hq hrg hbn hlt hin
   go_upto_region 4 with fail
   change Hid (Ck _ _ _ _ _ _ (wr.alloc (.cells #[.int .i64 kd,.int .i64 y1,.int .i64 y2,.int .i64 y3,.slice pb bn cb] 49))) at HL
   have hb5:=Below.new wr (.cells #[.int .i64 kd,.int .i64 y1,.int .i64 y2,.int .i64 y3,.slice pb bn cb] 49)
   have HDL:Hid (DD base (wr.alloc (.cells #[.int .i64 kd,.int .i64 y1,.int .i64 y2,.int .i64 y3,.slice pb bn cb] 49)) _ l ps il sts):=Lib.hid (HD.out.1.low (HL.out.low HD.out.2.2.2))
   have hraL:ROA (λ k=>k<base) (wr.alloc (.cells #[.int .i64 kd,.int .i64 y1,.int .i64 y2,.int .i64 y3,.slice pb bn cb] 49)) (.slice pb body.len cb) 20 body.len bc:=HDl.out.2.1.turn λ k hk hk2=>⟨hk,hb5.block k hk2⟩
   have hsfL:SF (λ k=>k<base) (wr.alloc (.cells #[.int .i64 kd,.int .i64 y1,.int .i64 y2,.int .i64 y3,.slice pb bn cb] 49)) body bc:=HDl.out.2.2.1.turn EF.stay λ k hk hk2=>⟨hk,hb5.block k hk2⟩
   have HRS:=Lib.hid (And.intro hraL hsfL)
   obtain ⟨xp,hxp⟩:∃ b,wr.heap.size=b:=⟨_,rfl⟩
   rw [hxp] at HL ⊢
   generalize wr.alloc (.cells #[.int .i64 kd,.int .i64 y1,.int .i64 y2,.int .i64 y3,.slice pb bn cb] 49)=w5 at *
   clear hb5 hraL hsfL hxp c0 c1 c2 c3 c4
   obtain ⟨e1,hst,hback⟩:=HL.out.next
   have hA:=HL.out.at 1 rfl
   have hP:=HL.out.at 0 rfl
   have hV:Vis l.length 46 #[.pointer (some ⟨xa,0,none⟩),.pointer (some ⟨xp,0,none⟩)] base w5 (λ d ks W=>Ck ab h w5 e1 ks (∀ z∈d,kOk l kd z) W) :=
    ⟨λ _ _=>by kernel_rfl,λ t c h=>h.lay t c,λ j h=>h.drop j,λ h x hx=>(h.blk x hx).1,λ h=>h.low HD.out.2.2.2,λ hS hw hs=>kinds1_any hA hP (HL.out.ne (List.mem_cons_of_mem _ List.mem_cons_self)) (HL.out.ne List.mem_cons_self) HD.out.2.2.2 HDL.out.sg HH.out.2 hS hw hs⟩
   have hW:=wlk_any hV HDl.out.2.2.2.1.1 HDl.out.2.2.2.1.2 [] [] w5 pb cb bc (hst.iff (by simp)) HRS.out.1 HRS.out.2
   rw [HDl.out.2.2.2.2.2.1] at hW
   have HW:=Lib.hid hW
   have p4:=hP.cell (i:=4) rfl
   have HBk:Hid (∀ {ls':Bx} {C1:Prop} {W1:World},Ck ab h w5 e1 ls' C1 W1→Ck ab h w e _ (Till g i∧C1) W1):=Lib.hid hback
   clear hst hback hA hP hV hW
   go_wp2_with fail
   refine HW.out.mono ?_;rintro en w6 ⟨rfl,h6⟩
   have H6:=Lib.hid (((HBk.out h6).drop 1).iff (C':=Till g (i+1)) (by rw [Till.succ,HDl.out.2.2.2.2.1];simp))
   clear h6 p4
   go_wp2_with fail
   go_roundw
   case measure=>simp [intOf];have:=HDl.out.2.2.2.2.2.2;omega
   case rel=>exact ⟨i+1,by go_num,HDl.out.2.2.2.2.2.2,H6.out⟩
  ·obtain rfl:np=i:=by omega
   have hii:¬(np:Int)<(np:Int):=by omega
   have HCr:=Lib.hid hCr
   clear hlt hin hCr
   go_wp2_with fail
   go_end0
   exact ⟨rfl,HCr.out.drop 1⟩
end Go.Proofs.Ytlklleaocbnbcaa
