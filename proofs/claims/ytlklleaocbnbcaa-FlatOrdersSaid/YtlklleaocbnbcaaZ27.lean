import Derived.Test.YtlklleaocbnbcaaZ26
namespace Go.Proofs.Ytlklleaocbnbcaa
set_option linter.unusedVariables false
open Go.RowKit Go.Sort
def raceS (l:List Sg) (ps:List Pr) (rl:List Int) (i s:Nat):Prop:=(!(nowB l ps i s).isEmpty && !(laterB l ps i s).isEmpty)=false∧(decide (rl.getD s 0=4) && !(rdB l ps i s).isEmpty && (wrB l ps i s).isEmpty)=false
def racesC (l:List Sg) (ps:List Pr) (rl:List Int):Prop:=Till (λ i=>Till (λ s=>raceS l ps rl i s) l.length) ps.length
theorem us_from {ab b' g N:Nat} {u:Us} {V:Nat→Value} {w:World} (hU:UsM b' g w u V) (hl:u.length=N) (hb:ab<b'):US (λ b=>b≠ab) w (usV g N) u:=by
 have:=hU.us
 rw [hl] at this
 exact this.turn λ b hb2 hlt=>⟨by have:=(hU.flt b hb2).1;omega,rfl⟩
theorem intsD_at (rl:List Int) {s:Nat} (hs:s<rl.length):(ints rl)[s]? = some (.int .i64 (rl.getD s 0)):=by
 unfold ints
 rw [List.getElem?_map,List.getD,List.getElem?_eq_getElem hs];rfl
set_option maxRecDepth 100000 in
set_option maxHeartbeats 8000000 in
theorem races_any {base ab:Nat} {w:World} {x:AX} {l:List Sg} {ps:List Pr} {il:List Int} {sts:List (Nat × List Bool)} {rp:Option Addr} {rc:Nat} {rl:List Int} {p1 p2 p3 e:Int} (hb:Blk w ab 103 ((x.h l.length il.length ps.length sts.length (.slice rp l.length rc)).cells p1 p2 p3 e)) (hD:DD base w x l ps il sts) (hU:UD (λ b=>b≠ab) w x l ps) (hbase:base≤ab) (hR:ROA (λ b=>b≠ab) w (.slice rp l.length rc) 1 l.length (ints rl)) :
  Calls Try.prog 27 #[.pointer (some ⟨ab,0,none⟩)] w (FailR ab (x.h l.length il.length ps.length sts.length (.slice rp l.length rc)) w e [] (racesC l ps rl)):=by
 obtain ⟨sp,sc,lp,ln,lc,ip,ic,op,on,oc,pp,cp,qp,qn,qc,tp,tc,dp,dc,wp,wcc⟩:=x
 obtain ⟨np,hnp⟩:∃ n,ps.length=n:=⟨_,rfl⟩
 obtain ⟨N,hN⟩:∃ n,l.length=n:=⟨_,rfl⟩
 obtain ⟨ni,hni⟩:∃ n,il.length=n:=⟨_,rfl⟩
 obtain ⟨nt,hnt⟩:∃ n,sts.length=n:=⟨_,rfl⟩
 rw [hN] at hR
 have hrl:rl.length=N:=by have:=hR.1;simpa [ints] using this
 have HD:=Lib.hid (And.intro hD (And.intro hnp (And.intro (show np≤1000 by rw [←hnp];exact hD.np) (And.intro hbase (And.intro hU (And.intro hN (And.intro (show N≤1000 by rw [←hN];exact hD.sg.le) (And.intro hR hrl))))))))
 rw [hN,hni,hnp,hnt] at hb ⊢
 obtain ⟨h,hh⟩:∃ h,AX.h ⟨sp,sc,lp,ln,lc,ip,ic,op,on,oc,pp,cp,qp,qn,qc,tp,tc,dp,dc,wp,wcc⟩ N ni np nt (.slice rp N rc)=h:=⟨_,rfl⟩
 have HH:Hid (h.sg = .slice sp N sc∧h.pl = .slice lp ln lc∧h.inp = .slice ip ni ic∧h.out = .slice op on oc∧h.pr = .slice pp np cp∧h.ass = .slice qp qn qc∧h.st = .slice tp nt tc∧h.ro = .slice rp N rc∧h.rd = .slice dp np dc∧h.wr = .slice wp np wcc):=Lib.hid (by rw [←hh];exact ⟨rfl,rfl,rfl,rfl,rfl,rfl,rfl,rfl,rfl,rfl⟩)
 rw [hh] at hb ⊢
 unfold racesC
 rw [hnp,hN]
 obtain ⟨g,hg⟩:∃ g:Nat→Prop,(λ i=>Till (λ s=>raceS l ps rl i s) N)=g:=⟨_,rfl⟩
 rw [hg]
 have HG:=Lib.hid hg
 have HC:Hid (Ck ab h w e [] (Till g 0) w):=Lib.hid ((Ck.start hb).iff (Till.zero g).symm)
 clear hb hD hU hnp hbase hh hg hN hni hnt hR hrl
 have a4:=HC.out.cell (i:=4) (v := .slice pp np cp) (λ _ _ _ _=>congrArg some HH.out.2.2.2.2.1)
 go_enter Try.func27,Try.ntmps27
 go_wp2_with fail
 go_loopw [13] (λ iv wr=>∃ i:Nat,iv = .int .i64 i∧i≤np∧Ck ab h w e [] (Till g i) wr) (λ iv _=>np-(intOf iv).toNat)
 case atStart=>exact ⟨0,rfl,Nat.zero_le _,HC.out⟩
 case round =>
  obtain ⟨i,rfl,hin,hCr⟩:=hrel
  clear a4
  by_cases hlt:i<np
  ·have hii:(i:Int)<(np:Int):=by omega
   have hi0:(0:Int)≤(i:Int):=by omega
   have hiw:IntKind.i64.wrap ((i:Int)+1)=((i+1:Nat):Int):=by rw [i64_of (by have:=HD.out.2.2.1;omega)];rfl
   obtain ⟨q,hq⟩:∃ q,ps[i]? = some q:=⟨_,List.getElem?_eq_getElem (by rw [HD.out.2.1];exact hlt)⟩
   have hDr:=HD.out.1.low (hCr.low HD.out.2.2.2.1)
   obtain ⟨b,o,pb,cb,bc,hpp,hrg,hra,hsf⟩:=hDr.at hq
   dsimp only at hpp
   subst hpp
   have hwf:=HD.out.1.wf q (List.mem_of_getElem? hq)
   have hgd:ps.getD i default=q:=by rw [List.getD,hq];rfl
   obtain ⟨kd,y1,y2,y3,body⟩:=q
   dsimp only at hrg hra hsf hwf
   obtain ⟨bn,hbn⟩:∃ n,body.len=n:=⟨_,rfl⟩
   rw [hbn] at hrg
   have c0:=hrg 0 _ rfl
   have c1:=hrg 1 _ rfl
   have c2:=hrg 2 _ rfl
   have c3:=hrg 3 _ rfl
   have c4:=hrg 4 _ rfl
   rw [Nat.add_zero] at c0
   have hCl:=hCr.lay 49 [.int .i64 kd,.int .i64 y1,.int .i64 y2,.int .i64 y3,.slice pb bn cb]
   change Ck _ _ _ _ _ _ (wr.alloc (.cells #[.int .i64 kd,.int .i64 y1,.int .i64 y2,.int .i64 y3,.slice pb bn cb] 49)) at hCl
   have hDl:=HD.out.1.low (hCl.low HD.out.2.2.2.1)
   have hb5:=Below.new wr (.cells #[.int .i64 kd,.int .i64 y1,.int .i64 y2,.int .i64 y3,.slice pb bn cb] 49)
   have hra5:=hra.turn (A':=λ k=>k<base) (w':=wr.alloc (.cells #[.int .i64 kd,.int .i64 y1,.int .i64 y2,.int .i64 y3,.slice pb bn cb] 49)) λ k hk hk2=>⟨hk,hb5.block k hk2⟩
   have hsf5:=hsf.turn EF.stay (A':=λ k=>k<base) (w':=wr.alloc (.cells #[.int .i64 kd,.int .i64 y1,.int .i64 y2,.int .i64 y3,.slice pb bn cb] 49)) λ k hk hk2=>⟨hk,hb5.block k hk2⟩
   have hkd:(ps.getD i default).kind=kd:=by rw [hgd]
   have hbd:(ps.getD i default).body=body:=by rw [hgd]
   have HL:=Lib.hid (And.intro hCl (And.intro hDl (And.intro hra5 (And.intro hsf5 (And.intro hwf (And.intro hkd (And.intro hbd (And.intro hbn (And.intro hlt hq)))))))))
   clear hCr hDr hrg hra hsf hwf hgd hkd hbd hbn hlt hin hq hDl hCl hb5 hra5 hsf5
   go_upto_region 3 with fail
   obtain ⟨xp,hxp⟩:∃ b,wr.heap.size=b:=⟨_,rfl⟩
   rw [hxp] at HL ⊢
   generalize wr.alloc (.cells #[.int .i64 kd,.int .i64 y1,.int .i64 y2,.int .i64 y3,.slice pb bn cb] 49)=w5 at *
   clear hxp c0 c1 c2 c3 c4
   have hX5:=HL.out.1.at 0 rfl
   have a0:=HL.out.1.cell (i:=0) (v := .slice sp N sc) (λ _ _ _ _=>congrArg some HH.out.1)
   have a1:=HL.out.1.cell (i:=1) (v := .slice lp ln lc) (λ _ _ _ _=>congrArg some HH.out.2.1)
   have a2:=HL.out.1.cell (i:=2) (v := .slice ip ni ic) (λ _ _ _ _=>congrArg some HH.out.2.2.1)
   have a3:=HL.out.1.cell (i:=3) (v := .slice op on oc) (λ _ _ _ _=>congrArg some HH.out.2.2.2.1)
   have a4:=HL.out.1.cell (i:=4) (v := .slice (some ⟨b,o,none⟩) np cp) (λ _ _ _ _=>congrArg some HH.out.2.2.2.2.1)
   have a5:=HL.out.1.cell (i:=5) (v := .slice qp qn qc) (λ _ _ _ _=>congrArg some HH.out.2.2.2.2.2.1)
   have a6:=HL.out.1.cell (i:=6) (v := .slice tp nt tc) (λ _ _ _ _=>congrArg some HH.out.2.2.2.2.2.2.1)
   have xp0:=hX5.cell (i:=0) rfl
   have xp1:=hX5.cell (i:=1) rfl
   have xp2:=hX5.cell (i:=2) rfl
   have xp3:=hX5.cell (i:=3) rfl
   have xp4:=hX5.cell (i:=4) rfl
   clear hX5
   have HTr:=Lib.hid (Tr.nil w5)
   refine wp_region_webCR (w0:=w5) [.known (.pointer (some ⟨ab,0,none⟩)),.known (.pointer (some ⟨ab,0,none⟩)),.known (.pointer (some ⟨ab,0,none⟩)),.known (.agg #[.slice sp N sc,.slice lp ln lc,.slice ip ni ic,.slice op on oc,.slice (some ⟨b,o,none⟩) np cp,.slice qp qn qc,.slice tp nt tc]),.known (.agg #[.int .i64 kd,.int .i64 y1,.int .i64 y2,.int .i64 y3,.slice pb bn cb]),.rel (λ v W=>∃ L,v = .slice (some ⟨L,0,none⟩) 1 1∧Blk W L 3 (ints [1])) (λ _ => []),.rel (UsV w5.heap.size N (writesP (sizes l) kSet body)) (λ _ => []),.known (.pointer (some ⟨ab,0,none⟩)),.known (.pointer (some ⟨ab,0,none⟩)),.known (.pointer (some ⟨ab,0,none⟩)),.known (.agg #[.slice sp N sc,.slice lp ln lc,.slice ip ni ic,.slice op on oc,.slice (some ⟨b,o,none⟩) np cp,.slice qp qn qc,.slice tp nt tc]),.known (.agg #[.int .i64 kd,.int .i64 y1,.int .i64 y2,.int .i64 y3,.slice pb bn cb]),.rel (λ v W=>∃ L,v = .slice (some ⟨L,0,none⟩) 1 1∧Blk W L 3 (ints [2])) (λ _ => []),.rel (UsV w5.heap.size N (writesP (sizes l) kLater body)) (λ _ => [])] [1,1,1,1,1,1,1,1,1,1,1,1,1,1] [] 32 2 #[true,true,true,true,true,true,true,true,true,true,true,true,true,true,false,false] (by kernel_rfl) (by kernel_rfl) rfl rfl rfl (Nat.le_of_ble_eq_true rfl) ⟨Sp.Mono.known,Sp.Mono.known,Sp.Mono.known,Sp.Mono.known,Sp.Mono.known,mono_sl,mono_us,Sp.Mono.known,Sp.Mono.known,Sp.Mono.known,Sp.Mono.known,Sp.Mono.known,mono_sl,mono_us,trivial⟩ HTr.out.drew (λ _ _ _ _ _ h=>h) (A := ?_) ?_ ?_ ?_
   rotate_left
   ·intro u
    simp only [fillC,Sp.val,Nat.reduceBEq,cond_false,Act.put,List.setIfInBounds_toArray,List.set_cons_zero,List.set_cons_succ]
    rfl
   iterate 5 (refine ob_yes (web_op (o:=_) rfl (λ u W hT hd Q K hK => ?_)) ?_;· (have cc0:=aft a0 hT.bel;have cc1:=aft a1 hT.bel;have cc2:=aft a2 hT.bel;have cc3:=aft a3 hT.bel;have cc4:=aft a4 hT.bel;have cc5:=aft a5 hT.bel;have cc6:=aft a6 hT.bel;have cc7:=aft xp0 hT.bel;have cc8:=aft xp1 hT.bel;have cc9:=aft xp2 hT.bel;have cc10:=aft xp3 hT.bel;have cc11:=aft xp4 hT.bel;go_simp;exact hK.out _ _ (Below.refl _ _) rfl (λ p hp=>by cases hp) List.nodup_nil))
   refine ob_yes (web_op (o:=_) rfl (λ u W hT hd Q K hK => ?_)) ?_
   ·(try simp only [Act.put,List.setIfInBounds_toArray,List.set_cons_zero,List.set_cons_succ] at hK)
    have cc0:=aft a0 hT.bel
    have cc1:=aft a1 hT.bel
    have cc2:=aft a2 hT.bel
    have cc3:=aft a3 hT.bel
    have cc4:=aft a4 hT.bel
    have cc5:=aft a5 hT.bel
    have cc6:=aft a6 hT.bel
    have cc7:=aft xp0 hT.bel
    have cc8:=aft xp1 hT.bel
    have cc9:=aft xp2 hT.bel
    have cc10:=aft xp3 hT.bel
    have cc11:=aft xp4 hT.bel
    go_simp
    exact hK.out _ _ (Below.new _ _) ⟨_,rfl,Blk.new _ _⟩ (λ p hp=>by cases hp) List.nodup_nil
   refine ob_yes (web_op (o:=_) rfl (λ u W hT hd Q K hK => ?_)) ?_
   ·have d5:=hd 5 (by kernel_rfl)
    generalize u 5=x5 at *
    obtain ⟨L5,rfl,hB5⟩:=d5
    (try simp only [Act.put,List.setIfInBounds_toArray,List.set_cons_zero,List.set_cons_succ] at hK)
    have cc0:=aft a0 hT.bel
    have cc1:=aft a1 hT.bel
    have cc2:=aft a2 hT.bel
    have cc3:=aft a3 hT.bel
    have cc4:=aft a4 hT.bel
    have cc5:=aft a5 hT.bel
    have cc6:=aft a6 hT.bel
    have cc7:=aft xp0 hT.bel
    have cc8:=aft xp1 hT.bel
    have cc9:=aft xp2 hT.bel
    have cc10:=aft xp3 hT.bel
    have cc11:=aft xp4 hT.bel
    go_simp
    have hs1:=(HL.out.2.1.low (hT.bel.mono (by have:=HD.out.2.2.2.1;have:=HL.out.1.size;have:=HL.out.1.lt;omega)))
    have hc6:=pwritten_any (w:=W) (v1 := .slice lp ln lc) (v2 := .slice ip ni ic) (v3 := .slice op on oc) (v4 := .slice (some ⟨b,o,none⟩) np cp) (v5 := .slice qp qn qc) (v6 := .slice tp nt tc) (kv := .int .i64 kd) (q1 := .int .i64 y1) (q2 := .int .i64 y2) (q3 := .int .i64 y3) (il := [1]) hB5.roa (by decide) kSet_ok (B:=base) (by have:=hT.bel.size;have:=HD.out.2.2.2.1;have:=HL.out.1.size;have:=HL.out.1.lt;omega) hs1.sg HL.out.2.2.2.2.1.1 HL.out.2.2.2.2.1.2 (HL.out.2.2.1.turn λ k hk hk2=>⟨hk,hT.bel.block k hk2⟩) (HL.out.2.2.2.1.turn EF.stay λ k hk hk2=>⟨hk,hT.bel.block k hk2⟩)
    rw [HD.out.2.2.2.2.2.1,HL.out.2.2.2.2.2.2.2.1] at hc6
    refine hc6.mono ?_;rintro e w6 ⟨g,V,rfl,hu6,hb6⟩
    exact hK.out _ _ hb6 ⟨g,V,_,rfl,hT.bel.size,hu6⟩ (λ p hp=>by cases hp) List.nodup_nil
   iterate 5 (refine ob_yes (web_op (o:=_) rfl (λ u W hT hd Q K hK => ?_)) ?_;· (have cc0:=aft a0 hT.bel;have cc1:=aft a1 hT.bel;have cc2:=aft a2 hT.bel;have cc3:=aft a3 hT.bel;have cc4:=aft a4 hT.bel;have cc5:=aft a5 hT.bel;have cc6:=aft a6 hT.bel;have cc7:=aft xp0 hT.bel;have cc8:=aft xp1 hT.bel;have cc9:=aft xp2 hT.bel;have cc10:=aft xp3 hT.bel;have cc11:=aft xp4 hT.bel;go_simp;exact hK.out _ _ (Below.refl _ _) rfl (λ p hp=>by cases hp) List.nodup_nil))
   refine ob_yes (web_op (o:=_) rfl (λ u W hT hd Q K hK => ?_)) ?_
   ·(try simp only [Act.put,List.setIfInBounds_toArray,List.set_cons_zero,List.set_cons_succ] at hK)
    have cc0:=aft a0 hT.bel
    have cc1:=aft a1 hT.bel
    have cc2:=aft a2 hT.bel
    have cc3:=aft a3 hT.bel
    have cc4:=aft a4 hT.bel
    have cc5:=aft a5 hT.bel
    have cc6:=aft a6 hT.bel
    have cc7:=aft xp0 hT.bel
    have cc8:=aft xp1 hT.bel
    have cc9:=aft xp2 hT.bel
    have cc10:=aft xp3 hT.bel
    have cc11:=aft xp4 hT.bel
    go_simp
    exact hK.out _ _ (Below.new _ _) ⟨_,rfl,Blk.new _ _⟩ (λ p hp=>by cases hp) List.nodup_nil
   refine ob_yes (web_op (o:=_) rfl (λ u W hT hd Q K hK => ?_)) ?_
   ·have d12:=hd 12 (by kernel_rfl)
    generalize u 12=x12 at *
    obtain ⟨L12,rfl,hB12⟩:=d12
    (try simp only [Act.put,List.setIfInBounds_toArray,List.set_cons_zero,List.set_cons_succ] at hK)
    have cc0:=aft a0 hT.bel
    have cc1:=aft a1 hT.bel
    have cc2:=aft a2 hT.bel
    have cc3:=aft a3 hT.bel
    have cc4:=aft a4 hT.bel
    have cc5:=aft a5 hT.bel
    have cc6:=aft a6 hT.bel
    have cc7:=aft xp0 hT.bel
    have cc8:=aft xp1 hT.bel
    have cc9:=aft xp2 hT.bel
    have cc10:=aft xp3 hT.bel
    have cc11:=aft xp4 hT.bel
    go_simp
    have hs1:=(HL.out.2.1.low (hT.bel.mono (by have:=HD.out.2.2.2.1;have:=HL.out.1.size;have:=HL.out.1.lt;omega)))
    have hc6:=pwritten_any (w:=W) (v1 := .slice lp ln lc) (v2 := .slice ip ni ic) (v3 := .slice op on oc) (v4 := .slice (some ⟨b,o,none⟩) np cp) (v5 := .slice qp qn qc) (v6 := .slice tp nt tc) (kv := .int .i64 kd) (q1 := .int .i64 y1) (q2 := .int .i64 y2) (q3 := .int .i64 y3) (il := [2]) hB12.roa (by decide) kLater_ok (B:=base) (by have:=hT.bel.size;have:=HD.out.2.2.2.1;have:=HL.out.1.size;have:=HL.out.1.lt;omega) hs1.sg HL.out.2.2.2.2.1.1 HL.out.2.2.2.2.1.2 (HL.out.2.2.1.turn λ k hk hk2=>⟨hk,hT.bel.block k hk2⟩) (HL.out.2.2.2.1.turn EF.stay λ k hk hk2=>⟨hk,hT.bel.block k hk2⟩)
    rw [HD.out.2.2.2.2.2.1,HL.out.2.2.2.2.2.2.2.1] at hc6
    refine hc6.mono ?_;rintro e w6 ⟨g,V,rfl,hu6,hb6⟩
    exact hK.out _ _ hb6 ⟨g,V,_,rfl,hT.bel.size,hu6⟩ (λ p hp=>by cases hp) List.nodup_nil
   exact ob_nil
   intro u wx hT hok
   obtain ⟨h0,h1,h2,h3,h4,h5,h6,h7,h8,h9,h10,h11,h12,h13,_⟩:=hok
   clear h0 h1 h2 h3 h4 h5 h7 h8 h9 h10 h11 h12
   simp only [ownsC,Sp.own,Nat.reduceBEq,cond_false,List.append_nil] at hT
   have d6:=h6 (by kernel_rfl)
   clear h6
   generalize u 6=x6 at *
   obtain ⟨g6,V6,b6,rfl,hb6,hU6⟩:=d6
   have d13:=h13 (by kernel_rfl)
   clear h13
   generalize u 13=x13 at *
   obtain ⟨g7,V7,b7,rfl,hb7,hU7⟩:=d13
   (try dsimp only [List.nil_append,List.cons_append] at hT)
   have HTE:=Lib.hid hT
   clear hT
   clear HTr a0 a1 a2 a3 a4 a5 a6 xp0 xp1 xp2 xp3 xp4
   refine wpAny_of_held (S:=λ _=>True) _ _ _ _ ?_
   refine wpAnyH_ready (rs := [14]) (by kernel_rfl) (by simp) ?_
   refine held_cons rfl (λ K hK => ?_) AllReadyH.nil
   go_simp
   refine hK.out _ _ trivial (λ _ => ?_)
   clear hK K
   (try simp only [List.setIfInBounds_toArray,List.set_cons_zero,List.set_cons_succ])
   refine wpAnyH_ready (rs := [15]) (by kernel_rfl) (by simp) ?_
   refine held_cons rfl (λ K hK => ?_) AllReadyH.nil
   go_simp
   refine hK.out _ _ trivial (λ _ => ?_)
   clear hK K
   (try simp only [List.setIfInBounds_toArray,List.set_cons_zero,List.set_cons_succ])
   refine wpAnyH_done (by kernel_rfl) ?_ _
   have hC6:=HL.out.1.below HTE.out.bel
   have hlt5:=HL.out.1.lt
   have hsz5:=HL.out.1.size
   have hus6:=us_from (ab:=ab) hU6 (N:=N) (by rw [writesP_len];simp [sizes];exact HD.out.2.2.2.2.2.1) (by omega)
   have hus7:=us_from (ab:=ab) hU7 (N:=N) (by rw [writesP_len];simp [sizes];exact HD.out.2.2.2.2.2.1) (by omega)
   obtain ⟨e5,hst5,hbk5⟩:=hC6.next
   have HS6:=Lib.hid (And.intro hst5 (And.intro hus6 (And.intro hus7 (And.intro (hC6.ud HD.out.2.2.2.2.1) (And.intro (HD.out.1.low (hC6.low HD.out.2.2.2.1)) (And.intro (hC6.at 0 rfl) (And.intro (hC6.ne List.mem_cons_self) (hC6.roa (λ _ h=>h) HD.out.2.2.2.2.2.2.2.1))))))))
   have HBk:Hid (∀ {ls':Bx} {C1:Prop} {W1:World},Ck ab h wx e5 ls' C1 W1→Ck ab h w e _ (Till g i∧C1) W1):=Lib.hid hbk5
   have a0:=hC6.cell (i:=0) (v := .slice sp N sc) (λ _ _ _ _=>congrArg some HH.out.1)
   clear hC6 hus6 hus7 hst5 hbk5 hU6 hb6 hU7 hb7 HTE hlt5 hsz5
   obtain ⟨bw,ow,pw,mw,hwp,hwn,hcw,husw⟩:=HS6.out.2.2.2.1.atW HL.out.2.2.2.2.2.2.2.2.2
   dsimp only at hwp
   subst hwp
   rw [HD.out.2.2.2.2.2.1] at hcw husw
   obtain ⟨bd,od,pd,md,hdp,hdn,hcd,husd⟩:=HS6.out.2.2.2.1.atR HL.out.2.2.2.2.2.2.2.2.2
   dsimp only at hdp
   subst hdp
   rw [HD.out.2.2.2.2.2.1] at hcd husd
   have HUw:=Lib.hid (And.intro husw (And.intro husd (And.intro hcw (And.intro hcd (And.intro hwn hdn)))))
   clear husw hwn husd hdn hcw hcd
   go_wp2_with fail
   obtain ⟨gs,hgs⟩:∃ gs:Nat→Prop,(λ s=>raceS l ps rl i s)=gs:=⟨_,rfl⟩
   have HGs:=Lib.hid hgs
   clear hgs
   go_loopw [38] (λ sv wr=>∃ s:Nat,sv = .int .i64 s∧s≤N∧Ck ab h wx e5 [] (Till gs s) wr) (λ sv _=>N-(intOf sv).toNat)
   case atStart=>exact ⟨0,rfl,Nat.zero_le _,HS6.out.1.iff (Till.zero gs).symm⟩
   case round =>
    obtain ⟨s,rfl,hsn,hCs⟩:=hrel
    clear a0
    by_cases hlt:s<N
    ·have hss:(s:Int)<(N:Int):=by omega
     have hs0:(0:Int)≤(s:Int):=by omega
     have hsw:IntKind.i64.wrap ((s:Int)+1)=((s+1:Nat):Int):=by rw [i64_of (by have:=HD.out.2.2.2.2.2.2.1;omega)];rfl
     have hbd:=HL.out.2.2.2.2.2.2.1
     have hsl:s<l.length:=by rw [HD.out.2.2.2.2.2.1];exact hlt
     obtain ⟨bn,on,pn,cn,hpn,hnn,hcn,_,hzn⟩:=HS6.out.2.1.get (by have:=nowB_at l ps i hsl;rw [hbd] at this;exact this)
     cases hpn
     rw [Nat.zero_add] at hcn
     obtain ⟨bt,ot,pt,ct,hpt,hnt,hct,_,hzt⟩:=HS6.out.2.2.1.get (by have:=laterB_at l ps i hsl;rw [hbd] at this;exact this)
     cases hpt
     rw [Nat.zero_add] at hct
     obtain ⟨bW,oW,pW,cW,hpW,hnW,hcW,_,hzW⟩:=HUw.out.1.get (by have:=wrB_at l ps i hsl;rw [hbd] at this;exact this)
     subst hpW
     obtain ⟨bR,oR,pR,cR,hpR,hnR,hcR,_,hzR⟩:=HUw.out.2.1.get (by have:=rdB_at l ps i hsl;rw [hbd] at this;exact this)
     subst hpR
     obtain ⟨rn,hrn⟩:∃ n,(nowB l ps i s).length=n:=⟨_,rfl⟩
     rw [hrn] at hcn
     obtain ⟨zn,hzzn⟩:∃ z,(nowB l ps i s).isEmpty=z:=⟨_,rfl⟩
     rw [hzzn] at hzn
     obtain ⟨rt,hrt⟩:∃ n,(laterB l ps i s).length=n:=⟨_,rfl⟩
     rw [hrt] at hct
     obtain ⟨zt,hzzt⟩:∃ z,(laterB l ps i s).isEmpty=z:=⟨_,rfl⟩
     rw [hzzt] at hzt
     obtain ⟨rW,hrW⟩:∃ n,(wrB l ps i s).length=n:=⟨_,rfl⟩
     rw [hrW] at hcW
     obtain ⟨zW,hzzW⟩:∃ z,(wrB l ps i s).isEmpty=z:=⟨_,rfl⟩
     rw [hzzW] at hzW
     obtain ⟨rR,hrR⟩:∃ n,(rdB l ps i s).length=n:=⟨_,rfl⟩
     rw [hrR] at hcR
     obtain ⟨zR,hzzR⟩:∃ z,(rdB l ps i s).isEmpty=z:=⟨_,rfl⟩
     rw [hzzR] at hzR
     obtain ⟨br,or,rfl⟩:=HS6.out.2.2.2.2.2.2.2.sl (intsD_at rl (s:=s) (by rw [HD.out.2.2.2.2.2.2.2.2];exact hlt))
     have hcr:=HS6.out.2.2.2.2.2.2.2.ro.cell (intsD_at rl (s:=s) (by rw [HD.out.2.2.2.2.2.2.2.2];exact hlt))
     have hnr:br≠ab:=HS6.out.2.2.2.2.2.2.2.inA (intsD_at rl (s:=s) (by rw [HD.out.2.2.2.2.2.2.2.2];exact hlt))
     obtain ⟨rv,hrv⟩:∃ v,rl.getD s 0=v:=⟨_,rfl⟩
     rw [hrv] at hcr
     obtain ⟨b4,hb4⟩:∃ c,(rv == 4)=c:=⟨_,rfl⟩
     have hgs:gs s↔((!zn && !zt)=false∧(b4 && !zR && zW)=false):=by rw [←HGs.out];show raceS l ps rl i s↔_;unfold raceS;rw [hzzn,hzzt,hzzW,hzzR,hrv,show decide (rv=4)=b4 by rw [←hb4];rfl]
     have HCs:=Lib.hid (And.intro hCs (And.intro hgs (And.intro hlt (And.intro hcn (And.intro hct (And.intro hcW (And.intro hcR (And.intro hcr (And.intro hnn (And.intro hnt (And.intro hnW (And.intro hnR hnr))))))))))))
     clear hCs hgs hlt hsn hcn hct hcW hcR hcr hnn hnt hnW hnR hnr hzzn hzzt hzzW hzzR hrv hrn hrt hrW hrR hbd hsl
     have qE:=eq_nilB
     have qN:=ne_nilB
     go_upto_region 7 with fail
     go_cut [] from 41 to 57 (λ wz=>Ck ab h wx e5 [] (Till gs s∧(!zn && !zt)=false) wz)
     case first =>
      have hcn:=HCs.out.1.cell0 HCs.out.2.2.2.1 HCs.out.2.2.2.2.2.2.2.2.1
      have hct:=HCs.out.1.cell0 HCs.out.2.2.2.2.1 HCs.out.2.2.2.2.2.2.2.2.2.1
      have hX:=HCs.out.1.blk0 HS6.out.2.2.2.2.2.1 HS6.out.2.2.2.2.2.2.1
      have xp0:=hX.cell (i:=0) rfl
      have xp1:=hX.cell (i:=1) rfl
      have xp2:=hX.cell (i:=2) rfl
      have xp3:=hX.cell (i:=3) rfl
      clear hX
      have HCd:=Lib.hid HCs.out.1.drew
      cases zn
      case true =>
       refine wp_region_still_tail 15 (by kernel_rfl) (by kernel_rfl) ?_
       simp only [List.take_succ_cons,List.take_zero,List.drop_succ_cons,List.drop_zero]
       change wpStill _ _ wr.drew (λ a'=>wpList _ _ _ _ a' wr.drew) _ _
       replace hcn:wr.drew.cell? _=_:=hcn
       replace hct:wr.drew.cell? _=_:=hct
       replace xp0:wr.drew.cell? _=_:=xp0
       replace xp1:wr.drew.cell? _=_:=xp1
       replace xp2:wr.drew.cell? _=_:=xp2
       replace xp3:wr.drew.cell? _=_:=xp3
       generalize wr.drew=w6 at *
       refine WS.out ?_
       iterate 15 (refine ws_step (λ K hK => ?_);go_simp;refine hK _ ?_;clear hK K)
       refine ws_nil ?_
       clear hcn hct xp0 xp1 xp2 xp3
       go_wp2_with fail
       refine (fail_any HCd.out false y1 y2 y3 17 (by decide)).mono ?_;rintro en w7 ⟨rfl,h7⟩
       go_wp2_with fail
       go_meet
       exact h7.iff (by simp)
      case false =>
       refine wp_region_still_tail 15 (by kernel_rfl) (by kernel_rfl) ?_
       simp only [List.take_succ_cons,List.take_zero,List.drop_succ_cons,List.drop_zero]
       change wpStill _ _ wr.drew (λ a'=>wpList _ _ _ _ a' wr.drew) _ _
       replace hcn:wr.drew.cell? _=_:=hcn
       replace hct:wr.drew.cell? _=_:=hct
       replace xp0:wr.drew.cell? _=_:=xp0
       replace xp1:wr.drew.cell? _=_:=xp1
       replace xp2:wr.drew.cell? _=_:=xp2
       replace xp3:wr.drew.cell? _=_:=xp3
       generalize wr.drew=w6 at *
       refine WS.out ?_
       iterate 15 (refine ws_step (λ K hK => ?_);go_simp;refine hK _ ?_;clear hK K)
       refine ws_nil ?_
       clear hcn hct xp0 xp1 xp2 xp3
       go_wp2_with fail
       refine (fail_any HCd.out (!zt) y1 y2 y3 17 (by decide)).mono ?_;rintro en w7 ⟨rfl,h7⟩
       go_wp2_with fail
       go_meet
       exact h7.iff (by simp)
     case rest =>
      have HC7:=Lib.hid hcut
      clear hcut
      have hcW:=HC7.out.cell0 HCs.out.2.2.2.2.2.1 HCs.out.2.2.2.2.2.2.2.2.2.2.1
      have hcR:=HC7.out.cell0 HCs.out.2.2.2.2.2.2.1 HCs.out.2.2.2.2.2.2.2.2.2.2.2.1
      have hcr:=HC7.out.cell0 HCs.out.2.2.2.2.2.2.2.1 HCs.out.2.2.2.2.2.2.2.2.2.2.2.2
      have hcw:=HC7.out.cell0 HUw.out.2.2.1 HUw.out.2.2.2.2.1
      have hcd:=HC7.out.cell0 HUw.out.2.2.2.1 HUw.out.2.2.2.2.2
      have hX:=HC7.out.blk0 HS6.out.2.2.2.2.2.1 HS6.out.2.2.2.2.2.2.1
      have xp0:=hX.cell (i:=0) rfl
      have xp1:=hX.cell (i:=1) rfl
      have xp2:=hX.cell (i:=2) rfl
      have xp3:=hX.cell (i:=3) rfl
      have a7:=HC7.out.cell (i:=7) (v := .slice (some ⟨br,or,none⟩) N rc) (λ _ _ _ _=>congrArg some HH.out.2.2.2.2.2.2.2.1)
      have a8:=HC7.out.cell (i:=8) (v := .slice (some ⟨bd,od,none⟩) np dc) (λ _ _ _ _=>congrArg some HH.out.2.2.2.2.2.2.2.2.1)
      have a9:=HC7.out.cell (i:=9) (v := .slice (some ⟨bw,ow,none⟩) np wcc) (λ _ _ _ _=>congrArg some HH.out.2.2.2.2.2.2.2.2.2)
      clear hX
      have HCd:=Lib.hid HC7.out.drew
      go_upto_region 8 with fail
      cases b4
      case false =>
       refine wp_region_still_tail 37 (by kernel_rfl) (by kernel_rfl) ?_
       simp only [List.take_succ_cons,List.take_zero,List.drop_succ_cons,List.drop_zero]
       change wpStill _ _ wc.drew (λ a'=>wpList _ _ _ _ a' wc.drew) _ _
       replace hcW:wc.drew.cell? _=_:=hcW
       replace hcR:wc.drew.cell? _=_:=hcR
       replace hcr:wc.drew.cell? _=_:=hcr
       replace hcw:wc.drew.cell? _=_:=hcw
       replace hcd:wc.drew.cell? _=_:=hcd
       replace xp0:wc.drew.cell? _=_:=xp0
       replace xp1:wc.drew.cell? _=_:=xp1
       replace xp2:wc.drew.cell? _=_:=xp2
       replace xp3:wc.drew.cell? _=_:=xp3
       replace a7:wc.drew.cell? _=_:=a7
       replace a8:wc.drew.cell? _=_:=a8
       replace a9:wc.drew.cell? _=_:=a9
       generalize wc.drew=w6 at *
       refine WS.out ?_
       iterate 37 (refine ws_step (λ K hK => ?_);go_simp;refine hK _ ?_;clear hK K)
       refine ws_nil ?_
       clear hcW hcR hcr hcw hcd xp0 xp1 xp2 xp3 a7 a8 a9
       go_wp2_with fail
       refine (fail_any HCd.out false y1 y2 y3 17 (by decide)).mono ?_;rintro en w7 ⟨rfl,h7⟩
       have H9:=Lib.hid (h7.iff (C':=Till gs (s+1)) (by rw [Till.succ,HCs.out.2.1];simp []))
       clear h7
       go_wp2_with fail
       go_roundw
       case measure=>simp [intOf];have:=HCs.out.2.2.1;omega
       case rel=>exact ⟨s+1,by go_num,HCs.out.2.2.1,H9.out⟩
      case true =>
       cases zR
       case true =>
        refine wp_region_still_tail 37 (by kernel_rfl) (by kernel_rfl) ?_
        simp only [List.take_succ_cons,List.take_zero,List.drop_succ_cons,List.drop_zero]
        change wpStill _ _ wc.drew (λ a'=>wpList _ _ _ _ a' wc.drew) _ _
        replace hcW:wc.drew.cell? _=_:=hcW
        replace hcR:wc.drew.cell? _=_:=hcR
        replace hcr:wc.drew.cell? _=_:=hcr
        replace hcw:wc.drew.cell? _=_:=hcw
        replace hcd:wc.drew.cell? _=_:=hcd
        replace xp0:wc.drew.cell? _=_:=xp0
        replace xp1:wc.drew.cell? _=_:=xp1
        replace xp2:wc.drew.cell? _=_:=xp2
        replace xp3:wc.drew.cell? _=_:=xp3
        replace a7:wc.drew.cell? _=_:=a7
        replace a8:wc.drew.cell? _=_:=a8
        replace a9:wc.drew.cell? _=_:=a9
        generalize wc.drew=w6 at *
        refine WS.out ?_
        iterate 37 (refine ws_step (λ K hK => ?_);go_simp;refine hK _ ?_;clear hK K)
        refine ws_nil ?_
        clear hcW hcR hcr hcw hcd xp0 xp1 xp2 xp3 a7 a8 a9
        go_wp2_with fail
        refine (fail_any HCd.out false y1 y2 y3 17 (by decide)).mono ?_;rintro en w7 ⟨rfl,h7⟩
        have H9:=Lib.hid (h7.iff (C':=Till gs (s+1)) (by rw [Till.succ,HCs.out.2.1];simp []))
        clear h7
        go_wp2_with fail
        go_roundw
        case measure=>simp [intOf];have:=HCs.out.2.2.1;omega
        case rel=>exact ⟨s+1,by go_num,HCs.out.2.2.1,H9.out⟩
       case false =>
        refine wp_region_still_tail 37 (by kernel_rfl) (by kernel_rfl) ?_
        simp only [List.take_succ_cons,List.take_zero,List.drop_succ_cons,List.drop_zero]
        change wpStill _ _ wc.drew (λ a'=>wpList _ _ _ _ a' wc.drew) _ _
        replace hcW:wc.drew.cell? _=_:=hcW
        replace hcR:wc.drew.cell? _=_:=hcR
        replace hcr:wc.drew.cell? _=_:=hcr
        replace hcw:wc.drew.cell? _=_:=hcw
        replace hcd:wc.drew.cell? _=_:=hcd
        replace xp0:wc.drew.cell? _=_:=xp0
        replace xp1:wc.drew.cell? _=_:=xp1
        replace xp2:wc.drew.cell? _=_:=xp2
        replace xp3:wc.drew.cell? _=_:=xp3
        replace a7:wc.drew.cell? _=_:=a7
        replace a8:wc.drew.cell? _=_:=a8
        replace a9:wc.drew.cell? _=_:=a9
        generalize wc.drew=w6 at *
        refine WS.out ?_
        iterate 37 (refine ws_step (λ K hK => ?_);go_simp;refine hK _ ?_;clear hK K)
        refine ws_nil ?_
        clear hcW hcR hcr hcw hcd xp0 xp1 xp2 xp3 a7 a8 a9
        go_wp2_with fail
        refine (fail_any HCd.out zW y1 y2 y3 17 (by decide)).mono ?_;rintro en w7 ⟨rfl,h7⟩
        have H9:=Lib.hid (h7.iff (C':=Till gs (s+1)) (by rw [Till.succ,HCs.out.2.1];simp [and_assoc]))
        clear h7
        go_wp2_with fail
        go_roundw
        case measure=>simp [intOf];have:=HCs.out.2.2.1;omega
        case rel=>exact ⟨s+1,by go_num,HCs.out.2.2.1,H9.out⟩
    ·obtain rfl:N=s:=by omega
     have hss:¬(N:Int)<(N:Int):=by omega
     have H9:=Lib.hid (((HBk.out hCs).drop 1).iff (C':=Till g (i+1)) (by rw [Till.succ,←HG.out];show _↔_∧Till (λ s=>raceS l ps rl i s) N;rw [HGs.out]))
     clear hCs hlt hsn
     go_wp2_with fail
     go_roundw
     case measure=>simp [intOf];have:=HL.out.2.2.2.2.2.2.2.2.1;omega
     case rel=>exact ⟨i+1,by go_num,HL.out.2.2.2.2.2.2.2.2.1,H9.out⟩
  ·obtain rfl:np=i:=by omega
   have hii:¬(np:Int)<(np:Int):=by omega
   have HCr:=Lib.hid hCr
   clear hlt hin hCr
   go_wp2_with fail
   go_end0
   exact ⟨rfl,HCr.out⟩
end Go.Proofs.Ytlklleaocbnbcaa
