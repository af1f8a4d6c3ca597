import Derived.Test.YtlklleaocbnbcaaZ30
namespace Go.Proofs.Ytlklleaocbnbcaa
set_option linter.unusedVariables false
open Go.RowKit Go.Sort
theorem stf_at:∀ {sts:List (Nat × List Bool)} {cs:List Value} (h:StF sts cs) {j:Nat} {s:Nat × List Bool} (hs:sts[j]? = some s),
  ∃ (p:Option Addr) (n c:Nat),∀ q,q<3→cs[j*3+q]? = [Value.int .i64 (s.1:Nat),.int .i64 (s.2.length:Nat),.slice p n c][q]?
 | [],_,_,j,s,hs=>by simp at hs
 | x::r,_,⟨p,n,c,cs',h1,h2⟩,0,s,hs=>by
  simp only [List.getElem?_cons_zero,Option.some.injEq] at hs
  subst hs
  refine ⟨p,n,c,λ q hq => ?_⟩
  rw [h1,Nat.zero_mul,Nat.zero_add,List.getElem?_append_left (by simpa using hq)]
 | x::r,_,⟨p,n,c,cs',h1,h2⟩,j+1,s,hs=>by
  obtain ⟨p',n',c',hat⟩:=stf_at h2 (j:=j) (s:=s) (by simpa using hs)
  refine ⟨p',n',c',λ q hq => ?_⟩
  rw [←hat q hq,h1,show (j+1)*3+q=j*3+q+3 by omega]
  rfl
def tw (sts:List (Nat × List Bool)) (i s:Nat):Bool:=(sts.take i).any λ y=>y.1 == s
theorem tw_succ {sts:List (Nat × List Bool)} {i s:Nat} {y:Nat × List Bool} (h:sts[i]? = some y):tw sts (i+1) s=(tw sts i s || y.1 == s):=by
 unfold tw
 rw [List.take_add_one,h,List.any_append]
 simp
def stS (l:List Sg) (rl:List Int) (sts:List (Nat × List Bool)) (i:Nat):Prop :=
 ((!(rl.getD (sts.getD i default).1 0 == 3) && !(rl.getD (sts.getD i default).1 0 == 4)) || (tw sts i (sts.getD i default).1 || !decide ((sts.getD i default).2.length=(l.getD (sts.getD i default).1 default).w)))=false
def startsC (l:List Sg) (rl:List Int) (sts:List (Nat × List Bool)):Prop:=Till (λ i=>stS l rl sts i) sts.length
set_option maxRecDepth 100000 in
theorem st1_any {W:World} {xb s n:Nat} {p:Option Addr} {k c:Nat} (hx:Blk W xb 99 [.int .i64 s,.int .i64 n,.slice p k c]) (y m:Nat) (p2:Option Addr) (k2 c2:Nat) :
  Calls Try.prog 56 #[.agg #[.int .i64 y,.int .i64 m,.slice p2 k2 c2],.pointer (some ⟨xb,0,none⟩)] W λ en w'=>en = .returned (.bool (y == s))∧Below W.heap.size W w':=by
 have hb1:=Below.new W (.cells #[.int .i64 y,.int .i64 m,.slice p2 k2 c2] 99)
 have x0:=(hx.next hb1).cell (i:=0) rfl
 have H:=Lib.hid hb1
 obtain ⟨z,hz⟩:∃ z,((y:Int) == (s:Int))=z:=⟨_,rfl⟩
 have hz2:(y == s)=z:=by rw [←hz,Bool.eq_iff_iff];simp;omega
 rw [hz2]
 clear hx hb1 hz2
 go_enter Try.func56,Try.ntmps56
 cases z
 ·go_wp2_with fail
  go_ret
  exact ⟨rfl,H.out⟩
 ·go_wp2_with fail
  go_ret
  exact ⟨rfl,H.out⟩
set_option maxRecDepth 100000 in
set_option maxHeartbeats 4000000 in
theorem idxS_any {W:World} {xb s n:Nat} {p:Option Addr} {k c:Nat} (hx:Blk W xb 99 [.int .i64 s,.int .i64 n,.slice p k c]) {sts:List (Nat × List Bool)} {stc:List Value} {tp:Option Addr} {tc i:Nat} (hr:RO W (.slice tp sts.length tc) 3 sts.length stc) (hs:StF sts stc) (hi:i≤sts.length) (hn:sts.length≤1000) :
  Calls Try.prog 68 #[.slice tp i tc,.func (Fn.func 56) #[] #[.pointer (some ⟨xb,0,none⟩)]] W λ en w'=>∃ r:Int,en = .returned (.int .i64 r)∧decide (0≤r)=tw sts i s∧Below W.heap.size W w':=by
 have H:=Lib.hid (And.intro hx (And.intro hr (And.intro hs (And.intro hi hn))))
 clear hx hr hs hi hn
 go_enter Try.func68,Try.ntmps68
 go_wp2_with fail
 go_loopw [8] (λ jv wr=>∃ j:Nat,jv = .int .i64 (j:Nat)∧j≤i∧tw sts j s=false∧Below W.heap.size W wr) (λ jv _=>i-(intOf jv).toNat)
 case atStart=>exact ⟨0,rfl,Nat.zero_le _,rfl,Below.refl _ _⟩
 case round =>
  obtain ⟨j,rfl,hji,hno,hbr⟩:=hrel
  by_cases hlt:j<i
  ·have hjj:(j:Int)<(i:Int):=by omega
   have hj0:(0:Int)≤(j:Int):=by omega
   have hjw:IntKind.i64.wrap ((j:Int)+1)=((j+1:Nat):Int):=by rw [i64_of (by have:=H.out.2.2.2.1;have:=H.out.2.2.2.2;omega)];rfl
   obtain ⟨y,hy⟩:∃ y,sts[j]? = some y:=⟨_,List.getElem?_eq_getElem (by have:=H.out.2.2.2.1;omega)⟩
   obtain ⟨p2,k2,c2,hat⟩:=stf_at H.out.2.2.1 hy
   have hro:=H.out.2.1.below hbr
   obtain ⟨b,o,rfl⟩:=hro.sl (hat 0 (by omega))
   have c0:=hro.cell (hat 0 (by omega))
   have c1:=hro.cell (hat 1 (by omega))
   have c2':=hro.cell (hat 2 (by omega))
   rw [←Nat.add_assoc] at c1 c2'
   rw [Nat.add_zero] at c0
   have hs1:=tw_succ (s:=s) hy
   rw [hno,Bool.false_or] at hs1
   obtain ⟨y1,y2⟩:=y
   dsimp only at hs1
   obtain ⟨m,hm⟩:∃ m,y2.length=m:=⟨_,rfl⟩
   have HC:=st1_any (H.out.1.next hbr) y1 m p2 k2 c2
   rw [←hs1] at HC
   simp only [hm] at c0 c1 c2'
   obtain ⟨z,hz⟩:∃ z,tw sts (j+1) s=z:=⟨_,rfl⟩
   rw [hz] at HC
   have HL:=Lib.hid (And.intro HC (And.intro hbr (And.intro hlt hz)))
   clear HC hbr hlt hz hs1 hno hji hat hro hy hm
   go_wp2_with fail
   refine HL.out.1.mono ?_;rintro en w6 ⟨rfl,hb6⟩
   have H6:=Lib.hid (Below.next HL.out.2.1 hb6)
   clear hb6 c0 c1 c2'
   cases z with
   | false =>
    go_wp2_with fail
    go_roundw
    case measure=>simp [intOf];have:=HL.out.2.2.1;omega
    case rel=>exact ⟨j+1,by go_num,HL.out.2.2.1,HL.out.2.2.2,H6.out⟩
   | true =>
    go_wp2_with fail
    go_ret
    refine ⟨j,rfl,?_,H6.out⟩
    rw [decide_eq_true hj0]
    have hz:=HL.out.2.2.2
    unfold tw at hz ⊢
    rw [List.any_eq_true] at hz
    obtain ⟨y,hy,hy2⟩:=hz
    have hsub:y∈sts.take i:=by
     have:sts.take (j+1)=(sts.take i).take (j+1):=by rw [List.take_take,Nat.min_eq_left HL.out.2.2.1]
     rw [this] at hy
     exact List.mem_of_mem_take hy
    exact (List.any_eq_true.2 ⟨y,hsub,hy2⟩).symm
  ·obtain rfl:i=j:=by omega
   have hjj:¬(i:Int)<(i:Int):=by omega
   have HF:=Lib.hid (And.intro hno hbr)
   clear hlt hji hno hbr
   go_wp2_with fail
   go_ret
   exact ⟨-1,rfl,by rw [HF.out.1];rfl,HF.out.2⟩
theorem hasS_any {W:World} {xb s n:Nat} {p:Option Addr} {k c:Nat} (hx:Blk W xb 99 [.int .i64 s,.int .i64 n,.slice p k c]) {sts:List (Nat × List Bool)} {stc:List Value} {tp:Option Addr} {tc i:Nat} (hr:RO W (.slice tp sts.length tc) 3 sts.length stc) (hs:StF sts stc) (hi:i≤sts.length) (hn:sts.length≤1000) :
  Calls Try.prog 55 #[.slice tp i tc,.func (Fn.func 56) #[] #[.pointer (some ⟨xb,0,none⟩)]] W λ en w'=>en = .returned (.bool (tw sts i s))∧Below W.heap.size W w':=by
 have HI:=Lib.hid (idxS_any hx hr hs hi hn)
 clear hx hr hs hi hn
 go_enter Try.func55,Try.ntmps55
 go_wp2_with fail
 refine HI.out.mono ?_;rintro e w2 ⟨r,rfl,hr,hb⟩
 have HR:=Lib.hid (And.intro hr hb)
 clear hr hb
 go_wp2_with fail
 go_ret
 refine ⟨congrArg (λ b=>Ending.returned (Value.bool b)) ?_,HR.out.2⟩
 rw [←HR.out.1]
set_option maxRecDepth 100000 in
set_option maxHeartbeats 8000000 in
theorem starts_any {base ab:Nat} {w:World} {x:AX} {l:List Sg} {ps:List Pr} {il:List Int} {sts:List (Nat × List Bool)} {rp:Option Addr} {rc:Nat} {rl:List Int} {p1 p2 p3 e:Int} (hA:AN base ab x (.slice rp l.length rc) l ps il sts p1 p2 p3 e w) (hR:ROA (λ b=>b≠ab) w (.slice rp l.length rc) 1 l.length (ints rl)) (hst:∀ s∈sts,s.1<l.length∧s.2.length≤1000) :
  Calls Try.prog 31 #[.pointer (some ⟨ab,0,none⟩)] w (FailR ab (x.h l.length il.length ps.length sts.length (.slice rp l.length rc)) w e [] (startsC l rl sts)):=by
 obtain ⟨sp,sc,lp,ln,lc,ip,ic,op,on,oc,pp,cp,qp,qn,qc,tp,tc,dp,dc,wp,wcc⟩:=x
 obtain ⟨np,hnp⟩:∃ n,ps.length=n:=⟨_,rfl⟩
 obtain ⟨N,hN⟩:∃ n,l.length=n:=⟨_,rfl⟩
 obtain ⟨ni,hni⟩:∃ n,il.length=n:=⟨_,rfl⟩
 obtain ⟨nt,hnt⟩:∃ n,sts.length=n:=⟨_,rfl⟩
 have hrl:rl.length=l.length:=by have:=hR.1;simpa [ints] using this
 obtain ⟨stc,hsr,hsf⟩:=hA.dd.st
 have htc:nt≤tc:=by have:=hsr.cap;rw [hnt] at this;exact this
 have HD:=Lib.hid (And.intro hA (And.intro hR (And.intro hrl (And.intro hst (And.intro hN (And.intro hnt (And.intro (show nt≤1000 by rw [←hnt];exact hA.dd.nt) (And.intro hsr (And.intro hsf htc)))))))))
 have hb:=hA.an
 rw [hN,hni,hnp,hnt] at hb
 rw [hN,hni,hnp,hnt]
 obtain ⟨h,hh⟩:∃ h,AX.h ⟨sp,sc,lp,ln,lc,ip,ic,op,on,oc,pp,cp,qp,qn,qc,tp,tc,dp,dc,wp,wcc⟩ N ni np nt (.slice rp N rc)=h:=⟨_,rfl⟩
 have HH:Hid (h.sg = .slice sp N sc∧h.pl = .slice lp ln lc∧h.inp = .slice ip ni ic∧h.out = .slice op on oc∧h.pr = .slice pp np cp∧h.ass = .slice qp qn qc∧h.st = .slice tp nt tc∧h.ro = .slice rp N rc∧h.rd = .slice dp np dc∧h.wr = .slice wp np wcc):=Lib.hid (by rw [←hh];exact ⟨rfl,rfl,rfl,rfl,rfl,rfl,rfl,rfl,rfl,rfl⟩)
 rw [hh] at hb ⊢
 unfold startsC
 rw [hnt]
 obtain ⟨g,hg⟩:∃ g:Nat→Prop,(λ i=>stS l rl sts i)=g:=⟨_,rfl⟩
 rw [hg]
 have HG:=Lib.hid hg
 have HC:Hid (Ck ab h w e [] (Till g 0) w):=Lib.hid ((Ck.start hb).iff (Till.zero g).symm)
 clear hb hA hnp hh hg hN hni hnt hR hrl hst hsr hsf htc
 have a6:=HC.out.cell (i:=6) (v := .slice tp nt tc) (λ _ _ _ _=>congrArg some HH.out.2.2.2.2.2.2.1)
 go_enter Try.func31,Try.ntmps31
 go_wp2_with fail
 go_loopw [12] (λ iv wr=>∃ i:Nat,iv = .int .i64 i∧i≤nt∧Ck ab h w e [] (Till g i) wr) (λ iv _=>nt-(intOf iv).toNat)
 case atStart=>exact ⟨0,rfl,Nat.zero_le _,HC.out⟩
 case round =>
  obtain ⟨i,rfl,hin,hCr⟩:=hrel
  clear a6
  by_cases hlt:i<nt
  ·have hii:(i:Int)<(nt:Int):=by omega
   have hi0:(0:Int)≤(i:Int):=by omega
   have hiw:IntKind.i64.wrap ((i:Int)+1)=((i+1:Nat):Int):=by rw [i64_of (by have:=HD.out.2.2.2.2.2.2.1;omega)];rfl
   obtain ⟨st,hst⟩:∃ s,sts[i]? = some s:=⟨_,List.getElem?_eq_getElem (by rw [HD.out.2.2.2.2.2.1];exact hlt)⟩
   obtain ⟨vp,vk,vc,hat⟩:=stf_at HD.out.2.2.2.2.2.2.2.2.1 hst
   have hlow:=hCr.low HD.out.1.hb
   have hsr:=(HD.out.2.2.2.2.2.2.2.1.turn (A':=λ k=>k<base) (w':=wr) λ k hk _=>⟨hk,hlow.block k hk⟩).ro
   rw [HD.out.2.2.2.2.2.1] at hsr
   (try dsimp only at hsr)
   obtain ⟨tb,to_,rfl⟩:=hsr.sl (hat 0 (by omega))
   have c0:=hsr.cell (hat 0 (by omega))
   have c1:=hsr.cell (hat 1 (by omega))
   have c2:=hsr.cell (hat 2 (by omega))
   rw [←Nat.add_assoc] at c1 c2
   rw [Nat.add_zero] at c0
   have hsn:=HD.out.2.2.2.1 st (List.mem_of_getElem? hst)
   have hgi:g i↔((!(rl.getD st.1 0 == 3) && !(rl.getD st.1 0 == 4)) || (tw sts i st.1 || !decide (st.2.length=(l.getD st.1 default).w)))=false:=by rw [←HG.out];show stS l rl sts i↔_;unfold stS;rw [show sts.getD i default=st by rw [List.getD,hst];rfl]
   obtain ⟨s,vl⟩:=st
   dsimp only at hsn hgi
   obtain ⟨vn,hvn⟩:∃ n,vl.length=n:=⟨_,rfl⟩
   rw [hvn] at hgi hsn
   simp only [hvn] at c0 c1 c2
   have hCl:=hCr.lay 99 [.int .i64 s,.int .i64 vn,.slice vp vk vc]
   change Ck _ _ _ _ _ _ (wr.alloc (.cells #[.int .i64 s,.int .i64 vn,.slice vp vk vc] 99)) at hCl
   obtain ⟨y,hy⟩:∃ y,l[s]? = some y:=⟨_,List.getElem?_eq_getElem hsn.1⟩
   rw [show l.getD s default=y by rw [List.getD,hy];rfl] at hgi
   have HL:=Lib.hid (And.intro hCl (And.intro hgi (And.intro hlt (And.intro hsn (And.intro hy (show s<N by rw [←HD.out.2.2.2.2.1];exact hsn.1))))))
   clear hCr hlow hsr hat hst hlt hin hsn hgi hvn hCl hy
   go_upto_region 3 with fail
   obtain ⟨xb,hxb⟩:∃ b,wr.heap.size=b:=⟨_,rfl⟩
   rw [hxb] at HL ⊢
   generalize wr.alloc (.cells #[.int .i64 s,.int .i64 vn,.slice vp vk vc] 99)=w5 at *
   clear hxb c0 c1 c2
   have x0:=(HL.out.1.at 0 rfl).cell (i:=0) rfl
   have a0:=HL.out.1.cell (i:=0) (v := .slice sp N sc) (λ _ _ _ _=>congrArg some HH.out.1)
   have hs0:(0:Int)≤(s:Int):=by omega
   have hs1:(s:Int)<(N:Int):=by have:=HL.out.2.2.2.2.2;omega
   have hsz:¬(s:Int)<0:=by omega
   have hsN:¬(N:Int)≤(s:Int):=by omega
   have hz1:((s:Int)<0)=False:=eq_false hsz
   have hz2:((N:Int)≤(s:Int))=False:=eq_false hsN
   have hz3:(N≤s)=False:=eq_false (by omega)
   have HLd:=Lib.hid HL.out.1.drew
   refine wp_region_still_tail 13 (by kernel_rfl) (by kernel_rfl) ?_
   simp only [List.take_succ_cons,List.take_zero,List.drop_succ_cons,List.drop_zero]
   change wpStill _ _ w5.drew (λ a'=>wpList _ _ _ _ a' w5.drew) _ _
   replace x0:w5.drew.cell? _=_:=x0
   replace a0:w5.drew.cell? _=_:=a0
   generalize w5.drew=w6 at *
   refine WS.out ?_
   iterate 13 (refine ws_step (λ K hK => ?_);go_simp;refine hK _ ?_;clear hK K)
   refine ws_nil ?_
   clear a0
   go_upto_region 5 with fail
   obtain ⟨br,or,rfl⟩:=HD.out.2.1.sl (intsD_at rl (s:=s) (by rw [HD.out.2.2.1];exact HL.out.2.2.2.1.1))
   have hcr:=(HLd.out.roa (λ _ h=>h) HD.out.2.1).ro.cell (intsD_at rl (s:=s) (by rw [HD.out.2.2.1];exact HL.out.2.2.2.1.1))
   obtain ⟨rv,hrv⟩:∃ v,rl.getD s 0=v:=⟨_,rfl⟩
   rw [hrv] at hcr HL
   have a7:=HLd.out.cell (i:=7) (v := .slice (some ⟨br,or,none⟩) N rc) (λ _ _ _ _=>congrArg some HH.out.2.2.2.2.2.2.2.1)
   have HLe:=Lib.hid HLd.out.drew
   refine wp_region_still_tail 8 (by kernel_rfl) (by kernel_rfl) ?_
   simp only [List.take_succ_cons,List.take_zero,List.drop_succ_cons,List.drop_zero]
   change wpStill _ _ w6.drew (λ a'=>wpList _ _ _ _ a' w6.drew) _ _
   replace x0:w6.drew.cell? _=_:=x0
   replace a7:w6.drew.cell? _=_:=a7
   replace hcr:w6.drew.cell? _=_:=hcr
   generalize w6.drew=w7 at *
   refine WS.out ?_
   iterate 8 (refine ws_step (λ K hK => ?_);go_simp;refine hK _ ?_;clear hK K)
   refine ws_nil ?_
   clear a7 hcr x0
   have a6:=HLe.out.cell (i:=6) (v := .slice (some ⟨tb,to_,none⟩) nt tc) (λ _ _ _ _=>congrArg some HH.out.2.2.2.2.2.2.1)
   have hhas:=hasS_any (HLe.out.at 0 rfl) (sts:=sts) (stc:=stc) (tp:=some ⟨tb,to_,none⟩) (tc:=tc) (i:=i) ((HD.out.2.2.2.2.2.2.2.1.turn (A':=λ k=>k<base) (w':=w7) λ k hk _=>⟨hk,(HLe.out.low HD.out.1.hb).block k hk⟩).ro) HD.out.2.2.2.2.2.2.2.2.1 (by rw [HD.out.2.2.2.2.2.1];exact Nat.le_of_lt HL.out.2.2.1) (by rw [HD.out.2.2.2.2.2.1];exact HD.out.2.2.2.2.2.2.1)
   obtain ⟨tv,htv⟩:∃ t,tw sts i s=t:=⟨_,rfl⟩
   rw [htv] at hhas HL
   have HHas:=Lib.hid hhas
   clear hhas htv
   have hic1:(i:Int)≤(tc:Int):=by have:=HD.out.2.2.2.2.2.2.2.2.2;have:=HL.out.2.2.1;omega
   go_wp2_with fail
   refine HHas.out.mono ?_;rintro en w8 ⟨rfl,hb8⟩
   have H8:=Lib.hid (HLe.out.below hb8)
   clear hb8 a6
   go_upto_region 7 with fail
   obtain ⟨b3,hb3⟩:∃ c,(rv == 3)=c:=⟨_,rfl⟩
   obtain ⟨b4,hb4⟩:∃ c,(rv == 4)=c:=⟨_,rfl⟩
   rw [hb3,hb4] at HL
   have hb3n:(rv != 3) = !b3:=by rw [←hb3];rfl
   have hb4n:(rv != 4) = !b4:=by rw [←hb4];rfl
   obtain ⟨sb,so,hse,_,c1,_,_⟩:=(HD.out.1.dd.low (H8.out.low HD.out.1.hb)).sig HL.out.2.2.2.2.1
   dsimp only at hse
   subst hse
   obtain ⟨wd,hwd⟩:∃ n,y.w=n:=⟨_,rfl⟩
   rw [hwd] at c1 HL
   obtain ⟨bw,hbw⟩:∃ c,((vn:Int) == (wd:Int))=c:=⟨_,rfl⟩
   have hbwn:((vn:Int) != (wd:Int)) = !bw:=by rw [←hbw];rfl
   rw [show decide (vn=wd)=bw by rw [←hbw,Bool.eq_iff_iff];simp;omega] at HL
   obtain ⟨plc,hpl⟩:=(HD.out.1.dd.low (H8.out.low HD.out.1.hb)).pl
   dsimp only at hpl
   have a0:=H8.out.cell (i:=0) (v := .slice (some ⟨sb,so,none⟩) N sc) (λ _ _ _ _=>congrArg some HH.out.1)
   have a1:=H8.out.cell (i:=1) (v := .slice lp ln lc) (λ _ _ _ _=>congrArg some HH.out.2.1)
   have x0:=(H8.out.at 0 rfl).cell (i:=0) rfl
   have x1:=(H8.out.at 0 rfl).cell (i:=1) rfl
   have x2:=(H8.out.at 0 rfl).cell (i:=2) rfl
   have HPl:=Lib.hid (And.intro a1 hpl.ro)
   have HWi:Hid (∀ W:World,Calls Try.prog 57 #[.agg #[.int .i64 vn,.slice vp vk vc]] W λ en w'=>en = .returned (.int .i64 vn)∧Below W.heap.size W w'):=Lib.hid λ W=>width_any
   clear hpl a1 hb3 hb4 hbw hwd hrv
   cases b3
   case true =>
    clear hb4n
    cases tv
    case true =>
     have HTr:=Lib.hid (Tr.nil w8)
     refine wp_region_webCR (w0:=w8) [.known (.pointer (some ⟨ab,0,none⟩)),.known (.int .i64 rv),.known (.bool false),.known (.bool false),.known (undef),.known (undef),.known (.bool false),.known (.bool false),.known (.bool true),.known (.bool true),.known (.bool true),.known (undef),.known (undef),.known (undef),.known (undef),.known (undef),.known (undef),.known (undef),.known (undef),.known (undef),.known (undef),.known (undef),.known (undef),.known (undef),.known (undef),.known (.bool true),.known (.pointer (some ⟨ab,0,none⟩)),.known (.pointer (some ⟨xb,0,none⟩)),.known (.int .i64 s),.rel (λ v _=>∃ q1 q2 q3:Int,v = .agg #[.int .i64 q1,.int .i64 q2,.int .i64 q3]) (λ _ => [])] [1,1,1,1,1,1,1,1,1,1,1,1,1,1,1,1,1,1,1,1,1,1,1,1,1,1,1,1,1,1] [] 81 1 #[true,true,true,true,true,true,true,true,true,true,true,true,true,true,true,true,true,true,true,true,true,true,true,true,true,true,true,true,true,true,false] (by kernel_rfl) (by kernel_rfl) rfl rfl rfl (Nat.le_of_ble_eq_true rfl) ⟨Sp.Mono.known,Sp.Mono.known,Sp.Mono.known,Sp.Mono.known,Sp.Mono.known,Sp.Mono.known,Sp.Mono.known,Sp.Mono.known,Sp.Mono.known,Sp.Mono.known,Sp.Mono.known,Sp.Mono.known,Sp.Mono.known,Sp.Mono.known,Sp.Mono.known,Sp.Mono.known,Sp.Mono.known,Sp.Mono.known,Sp.Mono.known,Sp.Mono.known,Sp.Mono.known,Sp.Mono.known,Sp.Mono.known,Sp.Mono.known,Sp.Mono.known,Sp.Mono.known,Sp.Mono.known,Sp.Mono.known,Sp.Mono.known,(λ _ _ _ _ h=>h),trivial⟩ HTr.out.drew (λ _ _ _ _ _ h=>h) (A := ?_) ?_ ?_ ?_
     rotate_left
     ·intro u
      simp only [fillC,Sp.val,Nat.reduceBEq,cond_false,Act.put,List.setIfInBounds_toArray,List.set_cons_zero,List.set_cons_succ]
      rfl
     iterate 29 (refine ob_yes (web_op (o:=_) rfl (λ u W hT hd Q K hK => ?_)) ?_;· (have cc0:=aft x0 hT.bel;have cc1:=aft x1 hT.bel;have cc2:=aft x2 hT.bel;have cc3:=aft a0 hT.bel;have cc4:=aft c1 hT.bel;go_simp;exact hK.out _ _ (Below.refl _ _) rfl (λ p hp=>by cases hp) List.nodup_nil))
     refine ob_yes (web_op (o:=_) rfl (λ u W hT hd Q K hK => ?_)) ?_
     ·(try simp only [Act.put,List.setIfInBounds_toArray,List.set_cons_zero,List.set_cons_succ] at hK)
      have cc0:=aft x0 hT.bel
      have cc1:=aft x1 hT.bel
      have cc2:=aft x2 hT.bel
      have cc3:=aft a0 hT.bel
      have cc4:=aft c1 hT.bel
      go_simp
      refine (place_any ((hT.bel.cell (World.block_lt_of_cell? _ _ HPl.out.1)).trans HPl.out.1) (HPl.out.2.below hT.bel) s).mono ?_;rintro en w9 ⟨q1,q2,q3,rfl,hb9⟩
      exact hK.out _ _ hb9 ⟨q1,q2,q3,rfl⟩ (λ p hp=>by cases hp) List.nodup_nil
     exact ob_nil
     intro u wx hT hok
     obtain ⟨h0,h1,h2,h3,h4,h5,h6,h7,h8,h9,h10,h11,h12,h13,h14,h15,h16,h17,h18,h19,h20,h21,h22,h23,h24,h25,h26,h27,h28,h29,_⟩:=hok
     clear h0 h1 h2 h3 h4 h5 h6 h7 h8 h9 h10 h11 h12 h13 h14 h15 h16 h17 h18 h19 h20 h21 h22 h23 h24 h25 h26 h27 h28
     simp only [ownsC,Sp.own,Nat.reduceBEq,cond_false,List.append_nil] at hT
     have d29:=h29 (by kernel_rfl)
     clear h29
     generalize u 29=x29 at *
     obtain ⟨q1,q2,q3,rfl⟩:=d29
     (try dsimp only [List.nil_append,List.cons_append] at hT)
     have HTE:=Lib.hid hT
     clear hT
     clear HTr x0 x1 x2 a0 c1
     refine wpAny_of_held (S:=λ _=>True) _ _ _ _ ?_
     refine wpAnyH_ready (rs := [30]) (by kernel_rfl) (by simp) ?_
     refine held_cons rfl (λ K hK => ?_) AllReadyH.nil
     go_simp
     refine (fail_any (H8.out.below HTE.out.bel) true q1 q2 q3 11 (by decide)).mono ?_;rintro en w10 ⟨rfl,h10⟩
     have H10:=Lib.hid ((h10.drop 1).iff (C':=Till g (i+1)) (by rw [Till.succ,HL.out.2.1];simp))
     clear h10
     (try go_simp)
     refine hK.out _ _ trivial (λ _ => ?_)
     clear hK K
     (try simp only [List.setIfInBounds_toArray,List.set_cons_zero,List.set_cons_succ])
     refine wpAnyH_done (by kernel_rfl) ?_ _
     go_wp2_with fail
     go_roundw
     case measure=>simp [intOf];have:=HL.out.2.2.1;omega
     case rel=>exact ⟨i+1,by go_num,HL.out.2.2.1,H10.out⟩
    case false =>
     have HTr:=Lib.hid (Tr.nil w8)
     refine wp_region_webCR (w0:=w8) [.known (.pointer (some ⟨ab,0,none⟩)),.known (.int .i64 rv),.known (.bool false),.known (.bool false),.known (undef),.known (undef),.known (.bool false),.known (.bool false),.known (.bool false),.known (.bool false),.known (.bool false),.known (.pointer (some ⟨xb,1,none⟩)),.known (.agg #[.int .i64 vn,.slice vp vk vc]),.known (.int .i64 vn),.known (.pointer (some ⟨ab,0,none⟩)),.known (.pointer (some ⟨ab,0,none⟩)),.known (.pointer (some ⟨ab,0,none⟩)),.known (.pointer (some ⟨ab,0,none⟩)),.known (.slice (some ⟨sb,so,none⟩) N sc),.known (.pointer (some ⟨xb,0,none⟩)),.known (.int .i64 s),.known (.pointer (some ⟨sb,so+s*4,none⟩)),.known (.pointer (some ⟨sb,so+s*4+1,none⟩)),.known (.int .i64 wd),.known (.bool (!bw)),.known (.bool (!bw)),.known (.pointer (some ⟨ab,0,none⟩)),.known (.pointer (some ⟨xb,0,none⟩)),.known (.int .i64 s),.rel (λ v _=>∃ q1 q2 q3:Int,v = .agg #[.int .i64 q1,.int .i64 q2,.int .i64 q3]) (λ _ => [])] [1,1,1,1,1,1,1,1,1,1,1,1,1,1,1,1,1,1,1,1,1,1,1,1,1,1,1,1,1,1] [] 81 1 #[true,true,true,true,true,true,true,true,true,true,true,true,true,true,true,true,true,true,true,true,true,true,true,true,true,true,true,true,true,true,false] (by kernel_rfl) (by kernel_rfl) rfl rfl rfl (Nat.le_of_ble_eq_true rfl) ⟨Sp.Mono.known,Sp.Mono.known,Sp.Mono.known,Sp.Mono.known,Sp.Mono.known,Sp.Mono.known,Sp.Mono.known,Sp.Mono.known,Sp.Mono.known,Sp.Mono.known,Sp.Mono.known,Sp.Mono.known,Sp.Mono.known,Sp.Mono.known,Sp.Mono.known,Sp.Mono.known,Sp.Mono.known,Sp.Mono.known,Sp.Mono.known,Sp.Mono.known,Sp.Mono.known,Sp.Mono.known,Sp.Mono.known,Sp.Mono.known,Sp.Mono.known,Sp.Mono.known,Sp.Mono.known,Sp.Mono.known,Sp.Mono.known,(λ _ _ _ _ h=>h),trivial⟩ HTr.out.drew (λ _ _ _ _ _ h=>h) (A := ?_) ?_ ?_ ?_
     rotate_left
     ·intro u
      simp only [fillC,Sp.val,Nat.reduceBEq,cond_false,Act.put,List.setIfInBounds_toArray,List.set_cons_zero,List.set_cons_succ]
      rfl
     iterate 13 (refine ob_yes (web_op (o:=_) rfl (λ u W hT hd Q K hK => ?_)) ?_;· (have cc0:=aft x0 hT.bel;have cc1:=aft x1 hT.bel;have cc2:=aft x2 hT.bel;have cc3:=aft a0 hT.bel;have cc4:=aft c1 hT.bel;go_simp;exact hK.out _ _ (Below.refl _ _) rfl (λ p hp=>by cases hp) List.nodup_nil))
     refine ob_yes (web_op (o:=_) rfl (λ u W hT hd Q K hK => ?_)) ?_
     ·(try simp only [Act.put,List.setIfInBounds_toArray,List.set_cons_zero,List.set_cons_succ] at hK)
      have cc0:=aft x0 hT.bel
      have cc1:=aft x1 hT.bel
      have cc2:=aft x2 hT.bel
      have cc3:=aft a0 hT.bel
      have cc4:=aft c1 hT.bel
      go_simp
      refine (HWi.out W).mono ?_;rintro en w9 ⟨rfl,hb9⟩
      exact hK.out _ _ hb9 rfl (λ p hp=>by cases hp) List.nodup_nil
     iterate 15 (refine ob_yes (web_op (o:=_) rfl (λ u W hT hd Q K hK => ?_)) ?_;· (have cc0:=aft x0 hT.bel;have cc1:=aft x1 hT.bel;have cc2:=aft x2 hT.bel;have cc3:=aft a0 hT.bel;have cc4:=aft c1 hT.bel;go_simp;exact hK.out _ _ (Below.refl _ _) rfl (λ p hp=>by cases hp) List.nodup_nil))
     refine ob_yes (web_op (o:=_) rfl (λ u W hT hd Q K hK => ?_)) ?_
     ·(try simp only [Act.put,List.setIfInBounds_toArray,List.set_cons_zero,List.set_cons_succ] at hK)
      have cc0:=aft x0 hT.bel
      have cc1:=aft x1 hT.bel
      have cc2:=aft x2 hT.bel
      have cc3:=aft a0 hT.bel
      have cc4:=aft c1 hT.bel
      go_simp
      refine (place_any ((hT.bel.cell (World.block_lt_of_cell? _ _ HPl.out.1)).trans HPl.out.1) (HPl.out.2.below hT.bel) s).mono ?_;rintro en w9 ⟨q1,q2,q3,rfl,hb9⟩
      exact hK.out _ _ hb9 ⟨q1,q2,q3,rfl⟩ (λ p hp=>by cases hp) List.nodup_nil
     exact ob_nil
     intro u wx hT hok
     obtain ⟨h0,h1,h2,h3,h4,h5,h6,h7,h8,h9,h10,h11,h12,h13,h14,h15,h16,h17,h18,h19,h20,h21,h22,h23,h24,h25,h26,h27,h28,h29,_⟩:=hok
     clear h0 h1 h2 h3 h4 h5 h6 h7 h8 h9 h10 h11 h12 h13 h14 h15 h16 h17 h18 h19 h20 h21 h22 h23 h24 h25 h26 h27 h28
     simp only [ownsC,Sp.own,Nat.reduceBEq,cond_false,List.append_nil] at hT
     have d29:=h29 (by kernel_rfl)
     clear h29
     generalize u 29=x29 at *
     obtain ⟨q1,q2,q3,rfl⟩:=d29
     (try dsimp only [List.nil_append,List.cons_append] at hT)
     have HTE:=Lib.hid hT
     clear hT
     clear HTr x0 x1 x2 a0 c1
     refine wpAny_of_held (S:=λ _=>True) _ _ _ _ ?_
     refine wpAnyH_ready (rs := [30]) (by kernel_rfl) (by simp) ?_
     refine held_cons rfl (λ K hK => ?_) AllReadyH.nil
     go_simp
     refine (fail_any (H8.out.below HTE.out.bel) (!bw) q1 q2 q3 11 (by decide)).mono ?_;rintro en w10 ⟨rfl,h10⟩
     have H10:=Lib.hid ((h10.drop 1).iff (C':=Till g (i+1)) (by rw [Till.succ,HL.out.2.1];simp))
     clear h10
     (try go_simp)
     refine hK.out _ _ trivial (λ _ => ?_)
     clear hK K
     (try simp only [List.setIfInBounds_toArray,List.set_cons_zero,List.set_cons_succ])
     refine wpAnyH_done (by kernel_rfl) ?_ _
     go_wp2_with fail
     go_roundw
     case measure=>simp [intOf];have:=HL.out.2.2.1;omega
     case rel=>exact ⟨i+1,by go_num,HL.out.2.2.1,H10.out⟩
   case false =>
    cases b4
    case false =>
     have HTr:=Lib.hid (Tr.nil w8)
     refine wp_region_webCR (w0:=w8) [.known (.pointer (some ⟨ab,0,none⟩)),.known (.int .i64 rv),.known (.bool true),.known (.bool true),.known (.int .i64 rv),.known (.bool true),.known (.bool true),.known (.bool true),.known (undef),.known (.bool true),.known (.bool true),.known (undef),.known (undef),.known (undef),.known (undef),.known (undef),.known (undef),.known (undef),.known (undef),.known (undef),.known (undef),.known (undef),.known (undef),.known (undef),.known (undef),.known (.bool true),.known (.pointer (some ⟨ab,0,none⟩)),.known (.pointer (some ⟨xb,0,none⟩)),.known (.int .i64 s),.rel (λ v _=>∃ q1 q2 q3:Int,v = .agg #[.int .i64 q1,.int .i64 q2,.int .i64 q3]) (λ _ => [])] [1,1,1,1,1,1,1,1,1,1,1,1,1,1,1,1,1,1,1,1,1,1,1,1,1,1,1,1,1,1] [] 81 1 #[true,true,true,true,true,true,true,true,true,true,true,true,true,true,true,true,true,true,true,true,true,true,true,true,true,true,true,true,true,true,false] (by kernel_rfl) (by kernel_rfl) rfl rfl rfl (Nat.le_of_ble_eq_true rfl) ⟨Sp.Mono.known,Sp.Mono.known,Sp.Mono.known,Sp.Mono.known,Sp.Mono.known,Sp.Mono.known,Sp.Mono.known,Sp.Mono.known,Sp.Mono.known,Sp.Mono.known,Sp.Mono.known,Sp.Mono.known,Sp.Mono.known,Sp.Mono.known,Sp.Mono.known,Sp.Mono.known,Sp.Mono.known,Sp.Mono.known,Sp.Mono.known,Sp.Mono.known,Sp.Mono.known,Sp.Mono.known,Sp.Mono.known,Sp.Mono.known,Sp.Mono.known,Sp.Mono.known,Sp.Mono.known,Sp.Mono.known,Sp.Mono.known,(λ _ _ _ _ h=>h),trivial⟩ HTr.out.drew (λ _ _ _ _ _ h=>h) (A := ?_) ?_ ?_ ?_
     rotate_left
     ·intro u
      simp only [fillC,Sp.val,Nat.reduceBEq,cond_false,Act.put,List.setIfInBounds_toArray,List.set_cons_zero,List.set_cons_succ]
      rfl
     iterate 29 (refine ob_yes (web_op (o:=_) rfl (λ u W hT hd Q K hK => ?_)) ?_;· (have cc0:=aft x0 hT.bel;have cc1:=aft x1 hT.bel;have cc2:=aft x2 hT.bel;have cc3:=aft a0 hT.bel;have cc4:=aft c1 hT.bel;go_simp;exact hK.out _ _ (Below.refl _ _) rfl (λ p hp=>by cases hp) List.nodup_nil))
     refine ob_yes (web_op (o:=_) rfl (λ u W hT hd Q K hK => ?_)) ?_
     ·(try simp only [Act.put,List.setIfInBounds_toArray,List.set_cons_zero,List.set_cons_succ] at hK)
      have cc0:=aft x0 hT.bel
      have cc1:=aft x1 hT.bel
      have cc2:=aft x2 hT.bel
      have cc3:=aft a0 hT.bel
      have cc4:=aft c1 hT.bel
      go_simp
      refine (place_any ((hT.bel.cell (World.block_lt_of_cell? _ _ HPl.out.1)).trans HPl.out.1) (HPl.out.2.below hT.bel) s).mono ?_;rintro en w9 ⟨q1,q2,q3,rfl,hb9⟩
      exact hK.out _ _ hb9 ⟨q1,q2,q3,rfl⟩ (λ p hp=>by cases hp) List.nodup_nil
     exact ob_nil
     intro u wx hT hok
     obtain ⟨h0,h1,h2,h3,h4,h5,h6,h7,h8,h9,h10,h11,h12,h13,h14,h15,h16,h17,h18,h19,h20,h21,h22,h23,h24,h25,h26,h27,h28,h29,_⟩:=hok
     clear h0 h1 h2 h3 h4 h5 h6 h7 h8 h9 h10 h11 h12 h13 h14 h15 h16 h17 h18 h19 h20 h21 h22 h23 h24 h25 h26 h27 h28
     simp only [ownsC,Sp.own,Nat.reduceBEq,cond_false,List.append_nil] at hT
     have d29:=h29 (by kernel_rfl)
     clear h29
     generalize u 29=x29 at *
     obtain ⟨q1,q2,q3,rfl⟩:=d29
     (try dsimp only [List.nil_append,List.cons_append] at hT)
     have HTE:=Lib.hid hT
     clear hT
     clear HTr x0 x1 x2 a0 c1
     refine wpAny_of_held (S:=λ _=>True) _ _ _ _ ?_
     refine wpAnyH_ready (rs := [30]) (by kernel_rfl) (by simp) ?_
     refine held_cons rfl (λ K hK => ?_) AllReadyH.nil
     go_simp
     refine (fail_any (H8.out.below HTE.out.bel) true q1 q2 q3 11 (by decide)).mono ?_;rintro en w10 ⟨rfl,h10⟩
     have H10:=Lib.hid ((h10.drop 1).iff (C':=Till g (i+1)) (by rw [Till.succ,HL.out.2.1];simp))
     clear h10
     (try go_simp)
     refine hK.out _ _ trivial (λ _ => ?_)
     clear hK K
     (try simp only [List.setIfInBounds_toArray,List.set_cons_zero,List.set_cons_succ])
     refine wpAnyH_done (by kernel_rfl) ?_ _
     go_wp2_with fail
     go_roundw
     case measure=>simp [intOf];have:=HL.out.2.2.1;omega
     case rel=>exact ⟨i+1,by go_num,HL.out.2.2.1,H10.out⟩
    case true =>
     cases tv
     case true =>
      have HTr:=Lib.hid (Tr.nil w8)
      refine wp_region_webCR (w0:=w8) [.known (.pointer (some ⟨ab,0,none⟩)),.known (.int .i64 rv),.known (.bool true),.known (.bool true),.known (.int .i64 rv),.known (.bool false),.known (.bool false),.known (.bool false),.known (.bool true),.known (.bool true),.known (.bool true),.known (undef),.known (undef),.known (undef),.known (undef),.known (undef),.known (undef),.known (undef),.known (undef),.known (undef),.known (undef),.known (undef),.known (undef),.known (undef),.known (undef),.known (.bool true),.known (.pointer (some ⟨ab,0,none⟩)),.known (.pointer (some ⟨xb,0,none⟩)),.known (.int .i64 s),.rel (λ v _=>∃ q1 q2 q3:Int,v = .agg #[.int .i64 q1,.int .i64 q2,.int .i64 q3]) (λ _ => [])] [1,1,1,1,1,1,1,1,1,1,1,1,1,1,1,1,1,1,1,1,1,1,1,1,1,1,1,1,1,1] [] 81 1 #[true,true,true,true,true,true,true,true,true,true,true,true,true,true,true,true,true,true,true,true,true,true,true,true,true,true,true,true,true,true,false] (by kernel_rfl) (by kernel_rfl) rfl rfl rfl (Nat.le_of_ble_eq_true rfl) ⟨Sp.Mono.known,Sp.Mono.known,Sp.Mono.known,Sp.Mono.known,Sp.Mono.known,Sp.Mono.known,Sp.Mono.known,Sp.Mono.known,Sp.Mono.known,Sp.Mono.known,Sp.Mono.known,Sp.Mono.known,Sp.Mono.known,Sp.Mono.known,Sp.Mono.known,Sp.Mono.known,Sp.Mono.known,Sp.Mono.known,Sp.Mono.known,Sp.Mono.known,Sp.Mono.known,Sp.Mono.known,Sp.Mono.known,Sp.Mono.known,Sp.Mono.known,Sp.Mono.known,Sp.Mono.known,Sp.Mono.known,Sp.Mono.known,(λ _ _ _ _ h=>h),trivial⟩ HTr.out.drew (λ _ _ _ _ _ h=>h) (A := ?_) ?_ ?_ ?_
      rotate_left
      ·intro u
       simp only [fillC,Sp.val,Nat.reduceBEq,cond_false,Act.put,List.setIfInBounds_toArray,List.set_cons_zero,List.set_cons_succ]
       rfl
      iterate 29 (refine ob_yes (web_op (o:=_) rfl (λ u W hT hd Q K hK => ?_)) ?_;· (have cc0:=aft x0 hT.bel;have cc1:=aft x1 hT.bel;have cc2:=aft x2 hT.bel;have cc3:=aft a0 hT.bel;have cc4:=aft c1 hT.bel;go_simp;exact hK.out _ _ (Below.refl _ _) rfl (λ p hp=>by cases hp) List.nodup_nil))
      refine ob_yes (web_op (o:=_) rfl (λ u W hT hd Q K hK => ?_)) ?_
      ·(try simp only [Act.put,List.setIfInBounds_toArray,List.set_cons_zero,List.set_cons_succ] at hK)
       have cc0:=aft x0 hT.bel
       have cc1:=aft x1 hT.bel
       have cc2:=aft x2 hT.bel
       have cc3:=aft a0 hT.bel
       have cc4:=aft c1 hT.bel
       go_simp
       refine (place_any ((hT.bel.cell (World.block_lt_of_cell? _ _ HPl.out.1)).trans HPl.out.1) (HPl.out.2.below hT.bel) s).mono ?_;rintro en w9 ⟨q1,q2,q3,rfl,hb9⟩
       exact hK.out _ _ hb9 ⟨q1,q2,q3,rfl⟩ (λ p hp=>by cases hp) List.nodup_nil
      exact ob_nil
      intro u wx hT hok
      obtain ⟨h0,h1,h2,h3,h4,h5,h6,h7,h8,h9,h10,h11,h12,h13,h14,h15,h16,h17,h18,h19,h20,h21,h22,h23,h24,h25,h26,h27,h28,h29,_⟩:=hok
      clear h0 h1 h2 h3 h4 h5 h6 h7 h8 h9 h10 h11 h12 h13 h14 h15 h16 h17 h18 h19 h20 h21 h22 h23 h24 h25 h26 h27 h28
      simp only [ownsC,Sp.own,Nat.reduceBEq,cond_false,List.append_nil] at hT
      have d29:=h29 (by kernel_rfl)
      clear h29
      generalize u 29=x29 at *
      obtain ⟨q1,q2,q3,rfl⟩:=d29
      (try dsimp only [List.nil_append,List.cons_append] at hT)
      have HTE:=Lib.hid hT
      clear hT
      clear HTr x0 x1 x2 a0 c1
      refine wpAny_of_held (S:=λ _=>True) _ _ _ _ ?_
      refine wpAnyH_ready (rs := [30]) (by kernel_rfl) (by simp) ?_
      refine held_cons rfl (λ K hK => ?_) AllReadyH.nil
      go_simp
      refine (fail_any (H8.out.below HTE.out.bel) true q1 q2 q3 11 (by decide)).mono ?_;rintro en w10 ⟨rfl,h10⟩
      have H10:=Lib.hid ((h10.drop 1).iff (C':=Till g (i+1)) (by rw [Till.succ,HL.out.2.1];simp))
      clear h10
      (try go_simp)
      refine hK.out _ _ trivial (λ _ => ?_)
      clear hK K
      (try simp only [List.setIfInBounds_toArray,List.set_cons_zero,List.set_cons_succ])
      refine wpAnyH_done (by kernel_rfl) ?_ _
      go_wp2_with fail
      go_roundw
      case measure=>simp [intOf];have:=HL.out.2.2.1;omega
      case rel=>exact ⟨i+1,by go_num,HL.out.2.2.1,H10.out⟩
     case false =>
      have HTr:=Lib.hid (Tr.nil w8)
      refine wp_region_webCR (w0:=w8) [.known (.pointer (some ⟨ab,0,none⟩)),.known (.int .i64 rv),.known (.bool true),.known (.bool true),.known (.int .i64 rv),.known (.bool false),.known (.bool false),.known (.bool false),.known (.bool false),.known (.bool false),.known (.bool false),.known (.pointer (some ⟨xb,1,none⟩)),.known (.agg #[.int .i64 vn,.slice vp vk vc]),.known (.int .i64 vn),.known (.pointer (some ⟨ab,0,none⟩)),.known (.pointer (some ⟨ab,0,none⟩)),.known (.pointer (some ⟨ab,0,none⟩)),.known (.pointer (some ⟨ab,0,none⟩)),.known (.slice (some ⟨sb,so,none⟩) N sc),.known (.pointer (some ⟨xb,0,none⟩)),.known (.int .i64 s),.known (.pointer (some ⟨sb,so+s*4,none⟩)),.known (.pointer (some ⟨sb,so+s*4+1,none⟩)),.known (.int .i64 wd),.known (.bool (!bw)),.known (.bool (!bw)),.known (.pointer (some ⟨ab,0,none⟩)),.known (.pointer (some ⟨xb,0,none⟩)),.known (.int .i64 s),.rel (λ v _=>∃ q1 q2 q3:Int,v = .agg #[.int .i64 q1,.int .i64 q2,.int .i64 q3]) (λ _ => [])] [1,1,1,1,1,1,1,1,1,1,1,1,1,1,1,1,1,1,1,1,1,1,1,1,1,1,1,1,1,1] [] 81 1 #[true,true,true,true,true,true,true,true,true,true,true,true,true,true,true,true,true,true,true,true,true,true,true,true,true,true,true,true,true,true,false] (by kernel_rfl) (by kernel_rfl) rfl rfl rfl (Nat.le_of_ble_eq_true rfl) ⟨Sp.Mono.known,Sp.Mono.known,Sp.Mono.known,Sp.Mono.known,Sp.Mono.known,Sp.Mono.known,Sp.Mono.known,Sp.Mono.known,Sp.Mono.known,Sp.Mono.known,Sp.Mono.known,Sp.Mono.known,Sp.Mono.known,Sp.Mono.known,Sp.Mono.known,Sp.Mono.known,Sp.Mono.known,Sp.Mono.known,Sp.Mono.known,Sp.Mono.known,Sp.Mono.known,Sp.Mono.known,Sp.Mono.known,Sp.Mono.known,Sp.Mono.known,Sp.Mono.known,Sp.Mono.known,Sp.Mono.known,Sp.Mono.known,(λ _ _ _ _ h=>h),trivial⟩ HTr.out.drew (λ _ _ _ _ _ h=>h) (A := ?_) ?_ ?_ ?_
      rotate_left
      ·intro u
       simp only [fillC,Sp.val,Nat.reduceBEq,cond_false,Act.put,List.setIfInBounds_toArray,List.set_cons_zero,List.set_cons_succ]
       rfl
      iterate 13 (refine ob_yes (web_op (o:=_) rfl (λ u W hT hd Q K hK => ?_)) ?_;· (have cc0:=aft x0 hT.bel;have cc1:=aft x1 hT.bel;have cc2:=aft x2 hT.bel;have cc3:=aft a0 hT.bel;have cc4:=aft c1 hT.bel;go_simp;exact hK.out _ _ (Below.refl _ _) rfl (λ p hp=>by cases hp) List.nodup_nil))
      refine ob_yes (web_op (o:=_) rfl (λ u W hT hd Q K hK => ?_)) ?_
      ·(try simp only [Act.put,List.setIfInBounds_toArray,List.set_cons_zero,List.set_cons_succ] at hK)
       have cc0:=aft x0 hT.bel
       have cc1:=aft x1 hT.bel
       have cc2:=aft x2 hT.bel
       have cc3:=aft a0 hT.bel
       have cc4:=aft c1 hT.bel
       go_simp
       refine (HWi.out W).mono ?_;rintro en w9 ⟨rfl,hb9⟩
       exact hK.out _ _ hb9 rfl (λ p hp=>by cases hp) List.nodup_nil
      iterate 15 (refine ob_yes (web_op (o:=_) rfl (λ u W hT hd Q K hK => ?_)) ?_;· (have cc0:=aft x0 hT.bel;have cc1:=aft x1 hT.bel;have cc2:=aft x2 hT.bel;have cc3:=aft a0 hT.bel;have cc4:=aft c1 hT.bel;go_simp;exact hK.out _ _ (Below.refl _ _) rfl (λ p hp=>by cases hp) List.nodup_nil))
      refine ob_yes (web_op (o:=_) rfl (λ u W hT hd Q K hK => ?_)) ?_
      ·(try simp only [Act.put,List.setIfInBounds_toArray,List.set_cons_zero,List.set_cons_succ] at hK)
       have cc0:=aft x0 hT.bel
       have cc1:=aft x1 hT.bel
       have cc2:=aft x2 hT.bel
       have cc3:=aft a0 hT.bel
       have cc4:=aft c1 hT.bel
       go_simp
       refine (place_any ((hT.bel.cell (World.block_lt_of_cell? _ _ HPl.out.1)).trans HPl.out.1) (HPl.out.2.below hT.bel) s).mono ?_;rintro en w9 ⟨q1,q2,q3,rfl,hb9⟩
       exact hK.out _ _ hb9 ⟨q1,q2,q3,rfl⟩ (λ p hp=>by cases hp) List.nodup_nil
      exact ob_nil
      intro u wx hT hok
      obtain ⟨h0,h1,h2,h3,h4,h5,h6,h7,h8,h9,h10,h11,h12,h13,h14,h15,h16,h17,h18,h19,h20,h21,h22,h23,h24,h25,h26,h27,h28,h29,_⟩:=hok
      clear h0 h1 h2 h3 h4 h5 h6 h7 h8 h9 h10 h11 h12 h13 h14 h15 h16 h17 h18 h19 h20 h21 h22 h23 h24 h25 h26 h27 h28
      simp only [ownsC,Sp.own,Nat.reduceBEq,cond_false,List.append_nil] at hT
      have d29:=h29 (by kernel_rfl)
      clear h29
      generalize u 29=x29 at *
      obtain ⟨q1,q2,q3,rfl⟩:=d29
      (try dsimp only [List.nil_append,List.cons_append] at hT)
      have HTE:=Lib.hid hT
      clear hT
      clear HTr x0 x1 x2 a0 c1
      refine wpAny_of_held (S:=λ _=>True) _ _ _ _ ?_
      refine wpAnyH_ready (rs := [30]) (by kernel_rfl) (by simp) ?_
      refine held_cons rfl (λ K hK => ?_) AllReadyH.nil
      go_simp
      refine (fail_any (H8.out.below HTE.out.bel) (!bw) q1 q2 q3 11 (by decide)).mono ?_;rintro en w10 ⟨rfl,h10⟩
      have H10:=Lib.hid ((h10.drop 1).iff (C':=Till g (i+1)) (by rw [Till.succ,HL.out.2.1];simp))
      clear h10
      (try go_simp)
      refine hK.out _ _ trivial (λ _ => ?_)
      clear hK K
      (try simp only [List.setIfInBounds_toArray,List.set_cons_zero,List.set_cons_succ])
      refine wpAnyH_done (by kernel_rfl) ?_ _
      go_wp2_with fail
      go_roundw
      case measure=>simp [intOf];have:=HL.out.2.2.1;omega
      case rel=>exact ⟨i+1,by go_num,HL.out.2.2.1,H10.out⟩
  ·obtain rfl:nt=i:=by omega
   have hii:¬(nt:Int)<(nt:Int):=by omega
   have HCr:=Lib.hid hCr
   clear hlt hin hCr
   go_wp2_with fail
   go_end0
   exact ⟨rfl,HCr.out⟩
end Go.Proofs.Ytlklleaocbnbcaa
