/- The law flatOrders holds: for every input it returns true and leaves its arguments as they were. No condition. -/
import Derived.Test.YtlklleaocbnbcaaZ36
import Derived.ProofKit
import Derived.OpenShut
import Derived.Test.YtlklleaocbnbcaaRows
namespace Go.Proofs.Ytlklleaocbnbcaa
set_option linter.unusedVariables false
open Go.RowKit Go.Sort
theorem DesR.next {w w':World} {l:List Sg} {ps:List Pr} {sts:List (Nat × List Bool)} {sp:Option Addr} {sc:Nat} {pl:List Int} {pL:Option Addr} {cL:Nat} {pI:Option Addr} {cI:Nat} {pP:Option Addr} {cP:Nat} {pc:List Value} {pT:Option Addr} {cT:Nat} {stc:List Value}
  (D:DesR w l ps sts sp sc pl pL cL pI cI pP cP pc pT cT stc) (hb:Below w.heap.size w w'):DesR w' l ps sts sp sc pl pL cL pI cI pP cP pc pT cT stc:=by
 have hO:∀ b,b<w.heap.size→b<w.heap.size→b<w'.heap.size∧w'.heap[b]? = w.heap[b]? := λ b h _=>⟨Nat.lt_of_lt_of_le h hb.size,hb.block b h⟩
 exact ⟨(D.des.low hb).mono hb.size,D.pls.turn hO,D.str.turn hO,D.stg.turn hO,D.sgs,D.psP,D.plen,D.stP,D.slen⟩
structure LB (w:World) (b5 b6 B base:Nat) (x:AX) (l:List Sg) (ps:List Pr) (sts:List (Nat × List Bool)) (sp:Option Addr) (sc:Nat) (pI:Option Addr) (cI:Nat) (pP:Option Addr) (cP:Nat) (pc c5 c6:List Value) (W:World):Prop where
 bel:Below w.heap.size w W
 des:Des B W l ps sp sc pI 1 cI [0] pP cP pc
 dd:DD base W x l ps [0] sts
 k5:Blk W b5 31 c5
 k6:Blk W b6 38 c6
 hB:B≤W.heap.size
 hbase:base≤W.heap.size
theorem LB.next {w W W':World} {b5 b6 B base:Nat} {x:AX} {l:List Sg} {ps:List Pr} {sts:List (Nat × List Bool)} {sp:Option Addr} {sc:Nat} {pI:Option Addr} {cI:Nat} {pP:Option Addr} {cP:Nat} {pc c5 c6:List Value}
  (h:LB w b5 b6 B base x l ps sts sp sc pI cI pP cP pc c5 c6 W) (hb:Below W.heap.size W W'):LB w b5 b6 B base x l ps sts sp sc pI cI pP cP pc c5 c6 W' :=
 ⟨Below.next h.bel hb,h.des.low (hb.mono h.hB),h.dd.low (hb.mono h.hbase),h.k5.next hb,h.k6.next hb,Nat.le_trans h.hB hb.size,Nat.le_trans h.hbase hb.size⟩
theorem DD.swap {base:Nat} {w w':World} {x:AX} {l:List Sg} {ps ps':List Pr} {il:List Int} {sts:List (Nat × List Bool)} (h:DD base w x l ps il sts) (hb:Below base w w') (hle:base≤w'.heap.size) {pp:Option Addr} {cp:Nat} {pc:List Value}
  (h1:ROA (λ k=>k<w'.heap.size) w' (.slice pp ps'.length cp) 5 ps'.length pc) (h2:PG 3 9 EF (λ k=>k<w'.heap.size) w' ps' pc) (hm:∀ q∈ps',q∈ps) (hl:ps'.length=ps.length) :
  DD w'.heap.size w' ⟨x.sp,x.sc,x.lp,x.ln,x.lc,x.ip,x.ic,x.op,x.on,x.oc,pp,cp,x.qp,x.qn,x.qc,x.tp,x.tc,x.dp,x.dc,x.wp,x.wc⟩ l ps' il sts:=by
 have h':=h.low hb
 have hA:∀ b,b<base→b<w'.heap.size→b<w'.heap.size∧w'.heap[b]? = w'.heap[b]? := λ b _ h=>⟨h,rfl⟩
 obtain ⟨pl,h3⟩:=h'.pl
 obtain ⟨stc,h4,h5⟩:=h'.st
 exact ⟨h'.sg.up hle,h'.ip.turn hA,h'.nl,⟨pc,h1,h2⟩,⟨pl,h3.turn hA⟩,⟨stc,h4.turn hA,h5⟩,λ q hq=>h'.wf q (hm q hq),hl ▸ h'.np,h'.nt⟩
theorem turned_mem {ps:List Pr} {d:Nat}:∀ q∈turned ps d,q∈ps:=λ q hq=>by
 obtain ⟨i,hi,rfl⟩:=List.mem_map.1 hq
 have hl:(i+d) % ps.length<ps.length:=Nat.mod_lt _ (by have:=List.mem_range.1 hi;omega)
 rw [List.getD,List.getElem?_eq_getElem hl]
 exact List.getElem_mem hl
theorem turned_any (ps:List Pr) (t:Int):Turn ps (turned ps (t % (ps.length:Int)).toNat):=by
 rcases Nat.eq_zero_or_pos ps.length with h0 | h0
 ·have e:ps = []:=List.eq_nil_of_length_eq_zero h0
  subst e
  exact turned_turn [] (d:=0) (Nat.le_refl _)
 ·exact turned_turn ps (turn_lt h0 t)
set_option maxRecDepth 100000 in
set_option maxHeartbeats 8000000 in
theorem law_any {w:World} {p:Option Addr} {nb c:Nat} {bl:List UInt8} {t:Int} (hb:ROA (λ k=>k<w.heap.size) w (.slice p nb c) 1 nb (byteCells bl)) (hl:bl.length=nb) :
  Calls Try.prog 3 #[.slice p nb c,.int .i64 t] w λ e w'=>e = .returned (.bool true)∧Below w.heap.size w w':=by
 have HA:=Lib.hid (awake_any w)
 have H0:=Lib.hid (And.intro hb hl)
 clear hb hl
 go_enter Try.func3,Try.ntmps3
 go_wp2_with fail
 refine HA.out.mono ?_;rintro en w1 ⟨rfl,hb1⟩
 have HS:=Lib.hid (short_any (w:=w1) (H0.out.1.turn λ k hk _=>⟨Nat.lt_of_lt_of_le hk hb1.size,hb1.block k hk⟩) H0.out.2)
 have HB1:=Lib.hid hb1
 clear hb1 HA
 go_wp2_with fail
 refine HS.out.mono ?_;rintro en w1' ⟨ps0,n0,c0,rfl,h400,hnb,hr0,rfl⟩
 have HM:=Lib.hid (make_any hr0 (by rw [List.length_take,H0.out.2];omega) h400)
 clear HS hr0 h400 hnb
 go_wp2_with fail
 refine HM.out.mono ?_;rintro en w2 ⟨l,ps,sts,sp,sc,pl,pL,cL,pI,cI,pO,nO,cO,pP,cP,pc,pA,nA,cA,pT,cT,stc,rfl,hD,hb2⟩
 have HD:=Lib.hid (And.intro (Below.next HB1.out hb2) hD)
 clear HM HB1 hb2 hD
 obtain ⟨N,hN⟩:∃ n,l.length=n:=⟨_,rfl⟩
 obtain ⟨np,hnp⟩:∃ n,ps.length=n:=⟨_,rfl⟩
 obtain ⟨nt,hnt⟩:∃ n,sts.length=n:=⟨_,rfl⟩
 rw [hN,hnp,hnt]
 have HN:=Lib.hid (And.intro hN (And.intro hnp hnt))
 clear hN hnp hnt
 go_upto_region 4 with fail
 have n3:=Below.new w2 (.cells #[.slice sp N sc,.slice pL N cL,.slice pI 1 cI,.slice pO nO cO,.slice pP np cP,.slice pA nA cA,.slice pT nt cT] 31)
 have k3:Blk ((w2.alloc (.cells #[.slice sp N sc,.slice pL N cL,.slice pI 1 cI,.slice pO nO cO,.slice pP np cP,.slice pA nA cA,.slice pT nt cT] 31))) w2.heap.size 31 [.slice sp N sc,.slice pL N cL,.slice pI 1 cI,.slice pO nO cO,.slice pP np cP,.slice pA nA cA,.slice pT nt cT]:=Blk.new _ _
 have HD3:=Lib.hid (And.intro (Below.next HD.out.1 n3) (And.intro (HD.out.2.next n3) k3))
 clear n3 k3 HD
 obtain ⟨b5,hb5⟩:∃ b,w2.heap.size=b:=⟨_,rfl⟩
 rw [hb5] at HD3 ⊢
 change Hid (Below _ _ ((w2.alloc (.cells #[.slice sp N sc,.slice pL N cL,.slice pI 1 cI,.slice pO nO cO,.slice pP np cP,.slice pA nA cA,.slice pT nt cT] 31)))∧_) at HD3
 generalize (w2.alloc (.cells #[.slice sp N sc,.slice pL N cL,.slice pI 1 cI,.slice pO nO cO,.slice pP np cP,.slice pA nA cA,.slice pT nt cT] 31))=w3 at *
 clear hb5
 have HO:Hid (Calls Try.prog 7 #[.agg #[.slice sp N sc,.slice pL N cL,.slice pI 1 cI,.slice pO nO cO,.slice pP np cP,.slice pA nA cA,.slice pT nt cT]] w3 (OwnD l ps sts (.slice pL N cL) (.slice pI 1 cI) (.slice pO nO cO) (.slice pA nA cA) w3)):=Lib.hid (by
  have D:=HD3.out.2.1
  have h:=own_des D.des.sg.ra D.sgs.le D.des.pr D.des.pg D.psP (Nat.le_trans D.plen D.sgs.le) D.str D.stg D.stP (Nat.le_trans D.slen D.sgs.le) (pL:=pL) (nL:=N) (cL:=cL) (pI:=pI) (nI:=1) (cI:=cI) (pO:=pO) (nO:=nO) (cO:=cO) (pA:=pA) (nA:=nA) (cA:=cA)
  rw [HN.out.1,HN.out.2.1,HN.out.2.2] at h
  exact h)
 have d0:=HD3.out.2.2.cell (i:=0) rfl
 have d1:=HD3.out.2.2.cell (i:=1) rfl
 have d2:=HD3.out.2.2.cell (i:=2) rfl
 have d3:=HD3.out.2.2.cell (i:=3) rfl
 have d4:=HD3.out.2.2.cell (i:=4) rfl
 have d5:=HD3.out.2.2.cell (i:=5) rfl
 have d6:=HD3.out.2.2.cell (i:=6) rfl
 go_wp2_with fail
 refine HO.out.mono ?_;rintro en w4 ⟨sp2,sc2,pp2,cp2,tp2,tc2,fpc,ftc,rfl,ho1,ho2,ho3,ho4,ho5,hb4⟩
 have hdd:=own_dd HD3.out.2.1 hb4 pO nO cO pA nA cA ho1 ho2 ho3 ho4 ho5
 have hdes:=HD3.out.2.1.des.low hb4
 have HD4:=Lib.hid (And.intro (Below.next HD3.out.1 hb4) (And.intro hdes (And.intro hdd (And.intro (HD3.out.2.2.next hb4) (And.intro hb4.size (And.intro HD3.out.2.1.szq (And.intro HD3.out.2.1.inq (And.intro HD3.out.2.1.stq (And.intro HD3.out.2.1.plen HD3.out.2.1.sgs.le)))))))))
 rw [HN.out.1] at HD4
 clear ho1 ho2 ho3 ho4 ho5 hdd hdes hb4 HO d0 d1 d2 d3 d4 d5 d6
 rw [HN.out.1,HN.out.2.1,HN.out.2.2]
 go_upto_region 5 with fail
 have n5:=Below.new w4 (.cells #[.slice sp2 N sc2,.slice pL N cL,.slice pI 1 cI,.slice pO nO cO,.slice pp2 np cp2,.slice pA nA cA,.slice tp2 nt tc2] 38)
 have hLB:LB w b5 w4.heap.size w3.heap.size w4.heap.size ⟨sp2,sc2,pL,N,cL,pI,cI,pO,nO,cO,pp2,cp2,pA,nA,cA,tp2,tc2,none,0,none,0⟩ l ps sts sp sc pI cI pP cP pc [.slice sp N sc,.slice pL N cL,.slice pI 1 cI,.slice pO nO cO,.slice pP np cP,.slice pA nA cA,.slice pT nt cT] [.slice sp2 N sc2,.slice pL N cL,.slice pI 1 cI,.slice pO nO cO,.slice pp2 np cp2,.slice pA nA cA,.slice tp2 nt tc2] (w4.alloc (.cells #[.slice sp2 N sc2,.slice pL N cL,.slice pI 1 cI,.slice pO nO cO,.slice pp2 np cp2,.slice pA nA cA,.slice tp2 nt tc2] 38)) :=
  ⟨Below.next HD4.out.1 n5,HD4.out.2.1.low (n5.mono HD4.out.2.2.2.2.1),HD4.out.2.2.1.low n5,HD4.out.2.2.2.1.next n5,Blk.new _ _,Nat.le_trans HD4.out.2.2.2.2.1 n5.size,n5.size⟩
 have HF:=Lib.hid HD4.out.2.2.2.2.2
 have HL:=Lib.hid hLB
 clear n5 hLB HD4 HD3
 obtain ⟨b6,hb6⟩:∃ b,w4.heap.size=b:=⟨_,rfl⟩
 rw [hb6] at HL ⊢
 obtain ⟨B,hB⟩:∃ b,w3.heap.size=b:=⟨_,rfl⟩
 rw [hB] at HL
 change Hid (LB _ _ _ _ _ _ _ _ _ _ _ _ _ _ _ _ _ _ (w4.alloc (.cells #[.slice sp2 N sc2,.slice pL N cL,.slice pI 1 cI,.slice pO nO cO,.slice pp2 np cp2,.slice pA nA cA,.slice tp2 nt tc2] 38))) at HL
 generalize (w4.alloc (.cells #[.slice sp2 N sc2,.slice pL N cL,.slice pI 1 cI,.slice pO nO cO,.slice pp2 np cp2,.slice pA nA cA,.slice tp2 nt tc2] 38))=w5 at *
 clear hb6 hB
 have HZ:Hid (Calls Try.prog 8 #[.agg #[.slice sp2 N sc2,.slice pL N cL,.slice pI 1 cI,.slice pO nO cO,.slice pp2 np cp2,.slice pA nA cA,.slice tp2 nt tc2]] w5 (AnaR l ps [0] sts w5)):=Lib.hid (by
  have h:=analyze_any HL.out.dd HL.out.hbase HF.out.1 (by rw [HN.out.1];exact HF.out.2.1) (by rw [HN.out.1];exact HF.out.2.2.1)
  rw [HN.out.1,HN.out.2.1,HN.out.2.2] at h
  exact h)
 have d0:=HL.out.k6.cell (i:=0) rfl
 have d1:=HL.out.k6.cell (i:=1) rfl
 have d2:=HL.out.k6.cell (i:=2) rfl
 have d3:=HL.out.k6.cell (i:=3) rfl
 have d4:=HL.out.k6.cell (i:=4) rfl
 have d5:=HL.out.k6.cell (i:=5) rfl
 have d6:=HL.out.k6.cell (i:=6) rfl
 go_wp2_with fail
 refine HZ.out.mono ?_;rintro en w6 ⟨e,q1,q2,q3,rv,ov,rfl,hbel,hiff,hbad,hok⟩
 clear HZ d0 d1 d2 d3 d4 d5 d6
 have HL6:=Lib.hid (HL.out.next hbel)
 by_cases he:e=0
 ·subst he
  have hC:=hiff.1 rfl
  obtain ⟨out,dn,hr,ho,hI,hFr⟩:=hok rfl
  clear hbad hok hiff
  obtain ⟨rp,rc,rfl,_⟩:=hr.form
  obtain ⟨op,oc,rfl,_⟩:=ho.form
  have HG:=Lib.hid (And.intro hC (And.intro hI (And.intro hFr (And.intro hr ho))))
  clear hC hI hFr hr ho hbel
  have hN1:¬N=0:=by have:=HL.out.dd.sg.pos;have:=HN.out.1;omega
  have HN1:=Lib.hid hN1
  clear hN1
  have n7:=Below.new w6 (.cells #[.slice rp N rc,.slice op out.length oc] 41)
  have n8:=Below.new (w6.alloc (.cells #[.slice rp N rc,.slice op out.length oc] 41)) (.cells #[.int .i64 q1,.int .i64 q2,.int .i64 q3] 43)
  have hb8:=Below.next n7 n8
  have hord:ROA (λ b=>w5.heap.size≤b) ((w6.alloc (.cells #[.slice rp N rc,.slice op out.length oc] 41)).alloc (.cells #[.int .i64 q1,.int .i64 q2,.int .i64 q3] 43)) (.slice op out.length oc) 1 out.length (natInts out):=HG.out.2.2.2.2.turn λ b h hlt=>⟨h,hb8.block b hlt⟩
  have hrol:ROA (λ b=>w5.heap.size≤b) ((w6.alloc (.cells #[.slice rp N rc,.slice op out.length oc] 41)).alloc (.cells #[.int .i64 q1,.int .i64 q2,.int .i64 q3] 43)) (.slice rp N rc) 1 N (ints (rolesP l ps [0])):=by
   have:=HG.out.2.2.2.1.turn (w':=((w6.alloc (.cells #[.slice rp N rc,.slice op out.length oc] 41)).alloc (.cells #[.int .i64 q1,.int .i64 q2,.int .i64 q3] 43))) (A':=λ b=>w5.heap.size≤b) λ b h hlt=>⟨h,hb8.block b hlt⟩
   rw [HN.out.1] at this
   exact this
  have HL8:=Lib.hid (And.intro (HL6.out.next hb8) (And.intro ((Blk.new (w:=w6) 41 [.slice rp N rc,.slice op out.length oc]).next n8) (And.intro hrol hord)))
  clear n7 n8 hb8 hrol hord HL6
  obtain ⟨b7,hb7⟩:∃ b,w6.heap.size=b:=⟨_,rfl⟩
  rw [HN.out.1]
  have HN2:=Lib.hid (show np≤8 by have:=HF.out.2.2.2;have:=HN.out.2.1;omega)
  go_upto_region 8 with fail
  rw [hb7] at HL8
  change Hid (LB _ _ _ _ _ _ _ _ _ _ _ _ _ _ _ _ _ _ ((w6.alloc (.cells #[.slice rp N rc,.slice op out.length oc] 41)).alloc (.cells #[.int .i64 q1,.int .i64 q2,.int .i64 q3] 43))∧_) at HL8
  generalize ((w6.alloc (.cells #[.slice rp N rc,.slice op out.length oc] 41)).alloc (.cells #[.int .i64 q1,.int .i64 q2,.int .i64 q3] 43))=w8 at *
  clear hb7
  have d4:=HL8.out.1.k6.cell (i:=4) rfl
  have e1:=HL8.out.2.1.cell (i:=1) rfl
  have hmk:=λ w=>mk_ints np (by have:=HN2.out;omega) w
  have n9:=Below.new w8 (.cells (ints (rlF np λ _=>0)).toArray 3)
  have hA0:ints (rlF np λ _=>0)=ints (List.replicate np 0):=by unfold rlF;rw [List.map_const',List.length_range]
  have H9:Hid (Below w8.heap.size w8 (w8.alloc (.cells (ints (rlF np λ _=>0)).toArray 3))∧Blk (w8.alloc (.cells (ints (rlF np λ _=>0)).toArray 3)) w8.heap.size 3 (ints (List.replicate np 0))):=Lib.hid ⟨n9,by rw [hA0];exact Blk.new _ _⟩
  have e1':=(n9.cell (World.block_lt_of_cell? _ _ e1)).trans e1
  clear n9 hA0
  go_upto_region 9 with fail
  change Hid (Below _ _ (w8.alloc (.cells (ints (rlF np λ _=>0)).toArray 3))∧_) at H9
  generalize (w8.alloc (.cells (ints (rlF np λ _=>0)).toArray 3))=w9 at *
  clear d4 e1 hmk
  go_wp2_with fail
  go_loopw [52] (λ iv wr=>∃ (i:Nat) (A:List Int),iv = .int .i64 i∧i≤out.length∧Below w8.heap.size w8 wr∧AtI out i np A∧Blk wr w8.heap.size 3 (ints A)) (λ iv _=>out.length-(intOf iv).toNat)
  case atStart=>exact ⟨0,_,rfl,Nat.zero_le _,H9.out.1,AtI.start out np,H9.out.2⟩
  case round =>
   obtain ⟨i,A,rfl,hin,hbr,hA,hkA⟩:=hrel
   clear e1'
   by_cases hlt:i<out.length
   ·obtain ⟨j,hj⟩:∃ j,out[i]? = some j:=⟨_,List.getElem?_eq_getElem hlt⟩
    have hok:=HG.out.2.1.ok j (List.mem_of_getElem? hj)
    have hjn:j<np:=by rw [←HN.out.2.1];exact hok.1
    obtain ⟨q,hq⟩:∃ q,ps[j]? = some q:=⟨_,List.getElem?_eq_getElem hok.1⟩
    have hk:¬((q.kind:Nat):Int)=3:=λ e=>hok.2 (by rw [List.getD,hq];show q.kind=3;omega)
    have hno:(natInts out)[i]? = some (.int .i64 (j:Nat)):=by unfold natInts ints;rw [List.map_map,List.getElem?_map,hj];rfl
    obtain ⟨ob,oo,rfl⟩:=HL8.out.2.2.2.ro.sl hno
    have co:=HL8.out.2.2.2.ro.cell hno
    obtain ⟨pb,po,qb,qc,bc,hpp,hrg,_,_⟩:=HL8.out.1.dd.at hq
    dsimp only at hpp
    subst hpp
    have cp:=hrg 0 _ rfl
    rw [Nat.add_zero] at cp
    replace cp:=(hbr.cell (World.block_lt_of_cell? _ _ cp)).trans cp
    replace co:=(hbr.cell (World.block_lt_of_cell? _ _ co)).trans co
    have d4:=(HL8.out.1.k6.next hbr).cell (i:=4) rfl
    have hz:=hA.zero HG.out.2.1.nd hj hjn
    have hz2:(ints A)[j]? = some (.int .i64 0):=by unfold ints;rw [List.getElem?_map,hz];rfl
    have ca:=hkA.cell hz2
    have caf:=hkA.frz j
    have hset:ints (A.set j ((i+1:Nat):Int))=(ints A).set j (.int .i64 ((i+1:Nat):Int)):=by unfold ints;rw [List.map_set]
    have hst:Blk (wr.setCell ⟨w8.heap.size,j,none⟩ (.int .i64 ((i+1:Nat):Int))) w8.heap.size 3 (ints (A.set j ((i+1:Nat):Int))):=by rw [hset];exact hkA.set j _
    have hlen:out.length≤1000000:=by
     have:=nodup_le out (List.range ps.length) HG.out.2.1.nd (λ y hy=>List.mem_range.2 (HG.out.2.1.ok y hy).1)
     rw [List.length_range,HN.out.2.1] at this
     have:=HN2.out
     omega
    have hii:(i:Int)<(out.length:Int):=by omega
    have hi0:(0:Int)≤(i:Int):=by omega
    have hiw:IntKind.i64.wrap ((i:Int)+1)=((i+1:Nat):Int):=by rw [i64_of (by omega)];rfl
    have hj0:¬(j:Int)<0:=by omega
    have hj1:(0:Int)≤(j:Int):=by omega
    have hj2:(j:Int)<(np:Int):=by omega
    have hj3:¬(np:Int)≤(j:Int):=by omega
    have HR:=Lib.hid (And.intro (show Below w8.heap.size w8 (wr.setCell ⟨w8.heap.size,j,none⟩ (.int .i64 ((i+1:Nat):Int))) from Below.setCell hbr (Nat.le_refl _) _) (And.intro (hA.step HG.out.2.1.nd hj hjn) (And.intro hst hlt)))
    clear hbr hA hkA hz hz2 hset hst hlen hok hq hrg hno hj hjn hin hlt
    go_wp2_with fail
    go_roundw
    case measure=>simp [intOf];have:=HR.out.2.2.2;omega
    case rel=>exact ⟨i+1,_,by go_num,HR.out.2.2.2,HR.out.1,HR.out.2.1,HR.out.2.2.1⟩
   ·obtain rfl:i=out.length:=by omega
    have hii:¬(out.length:Int)<(out.length:Int):=by omega
    have HK:=Lib.hid (And.intro hbr (And.intro hA hkA))
    clear hbr hA hkA hlt hin H9
    obtain ⟨wa,hwa⟩:∃ W,W=wr:=⟨_,rfl⟩
    subst hwa
    have HM:=Lib.hid (And.intro (HL8.out.1.next HK.out.1) (And.intro (HL8.out.2.1.next HK.out.1) (And.intro HK.out.2.1 (And.intro HK.out.2.2 (show w8.heap.size<wa.heap.size from HK.out.2.2.lt)))))
    have d4:=HM.out.1.k6.cell (i:=4) rfl
    obtain ⟨ba,hba⟩:∃ b,w8.heap.size=b:=⟨_,rfl⟩
    rw [hba] at HM HK ⊢
    have HBA:=Lib.hid hba
    clear hba
    go_wp2_with fail
    go_loopw [91] (λ iv wr=>∃ i:Nat,iv = .int .i64 i∧i≤np∧Below wa.heap.size wa wr) (λ iv _=>np-(intOf iv).toNat)
    case atStart=>exact ⟨0,rfl,Nat.zero_le _,Below.refl _ _⟩
    case round =>
     obtain ⟨i,rfl,hin,hbr⟩:=hrel
     clear d4
     by_cases hlt:i<np
     ·skip
      have hA2:AtI out out.length ps.length A:=by rw [HN.out.2.1];exact HM.out.2.2.1
      obtain ⟨vi,hvi,hvi0,hvi1,hvk⟩:=hA2.kind HG.out.2.1 HG.out.2.2.1 HG.out.1.2.2.2.2.2.1 (i:=i) (by rw [HN.out.2.1];exact hlt)
      obtain ⟨q,hq⟩:∃ q,ps[i]? = some q:=⟨_,List.getElem?_eq_getElem (by rw [HN.out.2.1];exact hlt)⟩
      obtain ⟨pb,po,qb,qc,bc,hpp,hrg,_,_⟩:=HM.out.1.dd.at hq
      dsimp only at hpp
      subst hpp
      have cp:=hrg 0 _ rfl
      rw [Nat.add_zero] at cp
      replace cp:=(hbr.cell (World.block_lt_of_cell? _ _ cp)).trans cp
      have d4:=(HM.out.1.k6.next hbr).cell (i:=4) rfl
      have hvz:(ints A)[i]? = some (.int .i64 vi):=by unfold ints;rw [List.getElem?_map,hvi];rfl
      have ca:=(HM.out.2.2.2.1.next hbr).cell hvz
      have hqk:decide (vi=0)=decide (((q.kind:Nat):Int)=3):=by
       rw [hvk,List.getD,hq]
       show decide (q.kind=3)=_
       rw [decide_eq_decide]
       omega
      have hii:(i:Int)<(np:Int):=by omega
      have hi0:(0:Int)≤(i:Int):=by omega
      have hiw:IntKind.i64.wrap ((i:Int)+1)=((i+1:Nat):Int):=by rw [i64_of (by have:=HN2.out;omega)];rfl
      have HR:=Lib.hid (And.intro hbr (And.intro hlt (And.intro hvi (And.intro hvi0 (And.intro hvi1 hqk)))))
      clear hbr hlt hin hvi hvi0 hvi1 hvk hvz hrg hq hA2 hqk
      go_upto_region 19 with fail
      obtain ⟨zb,hzb⟩:∃ z:Bool,decide (vi=0)=z:=⟨_,rfl⟩
      have hz1:(vi == 0)=zb:=hzb
      have hz2:(((q.kind:Nat):Int) == 3)=zb:=by show decide _=_;rw [←HR.out.2.2.2.2.2];exact hzb
      obtain ⟨vk,hvk⟩:∃ z:Int,((q.kind:Nat):Int)=z:=⟨_,rfl⟩
      rw [hvk] at cp hz2
      clear hzb hvk
      have HBz:Hid (Below wa.heap.size wa wr.drew):=Lib.hid HR.out.1.drew
      refine wp_region_still_tail 12 (by kernel_rfl) (by kernel_rfl) ?_
      simp only [List.take_succ_cons,List.take_zero,List.drop_succ_cons,List.drop_zero]
      change wpStill _ _ wr.drew (λ a'=>wpList _ _ _ _ a' wr.drew) _ _
      replace cp:wr.drew.cell? _=_:=cp
      replace d4:wr.drew.cell? _=_:=d4
      replace ca:wr.drew.cell? _=_:=ca
      generalize wr.drew=wz at *
      refine WS.out ?_
      iterate 12 (refine ws_step (λ K hK => ?_);go_simp;refine hK _ ?_;clear hK K)
      refine ws_nil ?_
      have hzz:(zb == zb)=true:=by cases zb <;> rfl
      clear cp ca
      go_upto_region 21 with fail
      clear hz1 hz2 hzz
      go_wp2_with fail
      go_loopw [110] (λ iv wr=>∃ k:Nat,iv = .int .i64 k∧k≤np∧Below wa.heap.size wa wr) (λ iv _=>np-(intOf iv).toNat)
      case atStart=>exact ⟨0,rfl,Nat.zero_le _,HBz.out⟩
      case round =>
       obtain ⟨k,rfl,hkn,hbk⟩:=hrel
       clear d4
       by_cases hlt:k<np
       ·skip
        have hA2:AtI out out.length ps.length A:=by rw [HN.out.2.1];exact HM.out.2.2.1
        obtain ⟨vj,hvj,hvj0,hvj1,_⟩:=hA2.kind HG.out.2.1 HG.out.2.2.1 HG.out.1.2.2.2.2.2.1 (i:=k) (by rw [HN.out.2.1];exact hlt)
        have hwi:(ints A)[i]? = some (.int .i64 vi):=by unfold ints;rw [List.getElem?_map,HR.out.2.2.1];rfl
        have hwk:(ints A)[k]? = some (.int .i64 vj):=by unfold ints;rw [List.getElem?_map,hvj];rfl
        have ci:=(HM.out.2.2.2.1.next hbk).cell hwi
        have ck:=(HM.out.2.2.2.1.next hbk).cell hwk
        have g0:=(HM.out.1.k5.next hbk).cell (i:=0) rfl
        have g1:=(HM.out.1.k5.next hbk).cell (i:=1) rfl
        have g2:=(HM.out.1.k5.next hbk).cell (i:=2) rfl
        have g3:=(HM.out.1.k5.next hbk).cell (i:=3) rfl
        have g4:=(HM.out.1.k5.next hbk).cell (i:=4) rfl
        have g5:=(HM.out.1.k5.next hbk).cell (i:=5) rfl
        have g6:=(HM.out.1.k5.next hbk).cell (i:=6) rfl
        have hld:0<vi→0<vj→vj≤vi→leadsP l ps i k=false:=λ h1 h2 h3=>hA2.leads HG.out.2.1 (by rw [HN.out.2.1];exact HR.out.2.1) (by rw [HN.out.2.1];exact hlt) HR.out.2.2.1 hvj h1 h2 h3
        have hkk:(k:Int)<(np:Int):=by omega
        have hk0:(0:Int)≤(k:Int):=by omega
        have hkw:IntKind.i64.wrap ((k:Int)+1)=((k+1:Nat):Int):=by rw [i64_of (by have:=HN2.out;omega)];rfl
        have HQ:=Lib.hid (And.intro hbk (And.intro hlt hld))
        clear hbk hlt hkn hwi hwk hA2 hvj hvj0 hvj1 hld
        go_upto_region 24 with fail
        go_cut [141] from 113 to 142 (λ v wz=>v = .bool false∧Below wa.heap.size wa wz)
        case first =>
         by_cases h0:0<vi
         ·skip
          by_cases h1:0<vj
          ·skip
           by_cases h2:vj≤vi
           ·skip
            have hlf:=HQ.out.2.2 h0 h1 h2
            have HLd:Hid (Calls Try.prog 9 #[.agg #[.slice sp N sc,.slice pL N cL,.slice pI 1 cI,.slice pO nO cO,.slice pP np cP,.slice pA nA cA,.slice pT nt cT],.int .i64 i,.int .i64 k] wr.drew λ e w2=>e = .returned (.bool false)∧Below wr.drew.heap.size wr.drew w2):=Lib.hid (by
             have h:=leads_any (w:=wr.drew) ((HM.out.1.next HQ.out.1.drew).des) (HM.out.1.next HQ.out.1.drew).hB i k (by rw [HN.out.2.1];exact HR.out.2.1) (by rw [HN.out.2.1];exact HQ.out.2.1) (v1 := .slice pL N cL) (v3 := .slice pO nO cO) (v5 := .slice pA nA cA) (v6 := .slice pT nt cT)
             rw [hlf,HN.out.1,HN.out.2.1] at h
             exact h)
            have HBz2:Hid (Below wa.heap.size wa wr.drew):=Lib.hid HQ.out.1.drew
            refine wp_region_still_tail 27 (by kernel_rfl) (by kernel_rfl) ?_
            simp only [List.take_succ_cons,List.take_zero,List.drop_succ_cons,List.drop_zero]
            change wpStill _ _ wr.drew (λ a'=>wpList _ _ _ _ a' wr.drew) _ _
            replace ci:wr.drew.cell? _=_:=ci
            replace ck:wr.drew.cell? _=_:=ck
            replace g0:wr.drew.cell? _=_:=g0
            replace g1:wr.drew.cell? _=_:=g1
            replace g2:wr.drew.cell? _=_:=g2
            replace g3:wr.drew.cell? _=_:=g3
            replace g4:wr.drew.cell? _=_:=g4
            replace g5:wr.drew.cell? _=_:=g5
            replace g6:wr.drew.cell? _=_:=g6
            generalize wr.drew=wz at *
            refine WS.out ?_
            iterate 27 (refine ws_step (λ K hK => ?_);go_simp;refine hK _ ?_;clear hK K)
            refine ws_nil ?_
            go_wp2_with fail
            refine HLd.out.mono ?_;rintro en w7 ⟨rfl,hb7⟩
            have HB7:=Lib.hid (Below.next HBz2.out hb7)
            clear hb7 ci ck g0 g1 g2 g3 g4 g5 g6
            go_wp2_with fail
            go_meet
            exact ⟨rfl,HB7.out⟩
           ·skip
            have HBz2:Hid (Below wa.heap.size wa wr.drew):=Lib.hid HQ.out.1.drew
            refine wp_region_still_tail 27 (by kernel_rfl) (by kernel_rfl) ?_
            simp only [List.take_succ_cons,List.take_zero,List.drop_succ_cons,List.drop_zero]
            change wpStill _ _ wr.drew (λ a'=>wpList _ _ _ _ a' wr.drew) _ _
            replace ci:wr.drew.cell? _=_:=ci
            replace ck:wr.drew.cell? _=_:=ck
            replace g0:wr.drew.cell? _=_:=g0
            replace g1:wr.drew.cell? _=_:=g1
            replace g2:wr.drew.cell? _=_:=g2
            replace g3:wr.drew.cell? _=_:=g3
            replace g4:wr.drew.cell? _=_:=g4
            replace g5:wr.drew.cell? _=_:=g5
            replace g6:wr.drew.cell? _=_:=g6
            generalize wr.drew=wz at *
            refine WS.out ?_
            iterate 27 (refine ws_step (λ K hK => ?_);go_simp;refine hK _ ?_;clear hK K)
            refine ws_nil ?_
            go_wp2_with fail
            go_meet
            exact ⟨rfl,HBz2.out⟩
          ·skip
           have HBz2:Hid (Below wa.heap.size wa wr.drew):=Lib.hid HQ.out.1.drew
           refine wp_region_still_tail 27 (by kernel_rfl) (by kernel_rfl) ?_
           simp only [List.take_succ_cons,List.take_zero,List.drop_succ_cons,List.drop_zero]
           change wpStill _ _ wr.drew (λ a'=>wpList _ _ _ _ a' wr.drew) _ _
           replace ci:wr.drew.cell? _=_:=ci
           replace ck:wr.drew.cell? _=_:=ck
           replace g0:wr.drew.cell? _=_:=g0
           replace g1:wr.drew.cell? _=_:=g1
           replace g2:wr.drew.cell? _=_:=g2
           replace g3:wr.drew.cell? _=_:=g3
           replace g4:wr.drew.cell? _=_:=g4
           replace g5:wr.drew.cell? _=_:=g5
           replace g6:wr.drew.cell? _=_:=g6
           generalize wr.drew=wz at *
           refine WS.out ?_
           iterate 27 (refine ws_step (λ K hK => ?_);go_simp;refine hK _ ?_;clear hK K)
           refine ws_nil ?_
           go_wp2_with fail
           go_meet
           exact ⟨rfl,HBz2.out⟩
         ·skip
          have HBz2:Hid (Below wa.heap.size wa wr.drew):=Lib.hid HQ.out.1.drew
          refine wp_region_still_tail 27 (by kernel_rfl) (by kernel_rfl) ?_
          simp only [List.take_succ_cons,List.take_zero,List.drop_succ_cons,List.drop_zero]
          change wpStill _ _ wr.drew (λ a'=>wpList _ _ _ _ a' wr.drew) _ _
          replace ci:wr.drew.cell? _=_:=ci
          replace ck:wr.drew.cell? _=_:=ck
          replace g0:wr.drew.cell? _=_:=g0
          replace g1:wr.drew.cell? _=_:=g1
          replace g2:wr.drew.cell? _=_:=g2
          replace g3:wr.drew.cell? _=_:=g3
          replace g4:wr.drew.cell? _=_:=g4
          replace g5:wr.drew.cell? _=_:=g5
          replace g6:wr.drew.cell? _=_:=g6
          generalize wr.drew=wz at *
          refine WS.out ?_
          iterate 27 (refine ws_step (λ K hK => ?_);go_simp;refine hK _ ?_;clear hK K)
          refine ws_nil ?_
          go_wp2_with fail
          go_meet
          exact ⟨rfl,HBz2.out⟩
        case rest =>
         obtain ⟨rfl,hbc⟩:=hcut
         have HBc:=Lib.hid hbc
         clear hbc ci ck g0 g1 g2 g3 g4 g5 g6
         go_wp2_with fail
         go_roundw
         case measure=>simp [intOf];have:=HQ.out.2.1;omega
         case rel=>exact ⟨k+1,by go_num,HQ.out.2.1,HBc.out⟩
       ·obtain rfl:np=k:=by omega
        have hkk:¬(np:Int)<(np:Int):=by omega
        have HBk:=Lib.hid hbk
        clear hbk hlt hkn
        go_wp2_with fail
        go_roundw
        case measure=>simp [intOf];have:=HR.out.2.1;omega
        case rel=>exact ⟨i+1,by go_num,HR.out.2.1,HBk.out⟩
     ·obtain rfl:np=i:=by omega
      have hii:¬(np:Int)<(np:Int):=by omega
      clear hlt hin
      have HW:=Lib.hid (And.intro (HM.out.1.next hbr) (And.intro (HM.out.2.1.next hbr) hbr))
      clear hbr
      have d0:=HW.out.1.k6.cell (i:=0) rfl
      have d1:=HW.out.1.k6.cell (i:=1) rfl
      have d2:=HW.out.1.k6.cell (i:=2) rfl
      have d3:=HW.out.1.k6.cell (i:=3) rfl
      have d4:=HW.out.1.k6.cell (i:=4) rfl
      have d5:=HW.out.1.k6.cell (i:=5) rfl
      have d6:=HW.out.1.k6.cell (i:=6) rfl
      go_upto_region 30 with fail
      obtain ⟨wd,hwd⟩:∃ W,W=wr:=⟨_,rfl⟩
      subst hwd
      have HO0:=Lib.hid (Out.start (et:=49) (es:=5) (G:=(λ _ _=>True)) MSt.tt ((Tr.nil wd).lay 38 [.slice sp2 N sc2,.slice pL N cL,.slice pI 1 cI,.slice pO nO cO,.slice pp2 np cp2,.slice pA nA cA,.slice tp2 nt tc2]) trivial)
      obtain ⟨b9,hb9⟩:∃ b,wd.heap.size=b:=⟨_,rfl⟩
      change Hid (Out _ 5 _ wd (wd.alloc (.cells #[.slice sp2 N sc2,.slice pL N cL,.slice pI 1 cI,.slice pO nO cO,.slice pp2 np cp2,.slice pA nA cA,.slice tp2 nt tc2] 38)) _ _ _ _) at HO0
      rw [hb9] at HO0 ⊢
      generalize (wd.alloc (.cells #[.slice sp2 N sc2,.slice pL N cL,.slice pI 1 cI,.slice pO nO cO,.slice pp2 np cp2,.slice pA nA cA,.slice tp2 nt tc2] 38))=w30 at *
      have q4:=(HO0.out.at 0 rfl).cell (i:=4) rfl
      have q4f:=(HO0.out.at 0 rfl).frz 4
      have HO1:Hid (Out 49 5 (λ _ _=>True) wd (w30.setCell ⟨b9,4,none⟩ (.slice none 0 0)) [(b9,38, [.slice sp2 N sc2,.slice pL N cL,.slice pI 1 cI,.slice pO nO cO,.slice none 0 0,.slice pA nA cA,.slice tp2 nt tc2])] (.slice none 0 0) 0 []):=Lib.hid (HO0.out.set MSt.tt 0 rfl 4 (.slice none 0 0))
      have hb9s:=Lib.hid hb9
      clear hb9
      go_upto_region 31 with fail
      generalize w30.setCell ⟨b9,4,none⟩ (.slice none 0 0)=w31 at *
      clear q4 q4f HO0 d0 d1 d2 d3 d4 d5 d6
      go_wp2_with fail
      go_loopw [150] (λ iv wr=>∃ (i:Nat) (v:Value) (ow:List Value),iv = .int .i64 i∧i≤np∧PG 3 9 EF (λ k=>k<b6) wd ((turned ps (t % (np:Int)).toNat).take i) ow∧Out 49 5 (λ _ _=>True) wd wr [(b9,38, [.slice sp2 N sc2,.slice pL N cL,.slice pI 1 cI,.slice pO nO cO,v,.slice pA nA cA,.slice tp2 nt tc2])] (v) i ow) (λ iv _=>np-(intOf iv).toNat)
      case atStart=>exact ⟨0,.slice none 0 0, [],rfl,Nat.zero_le _,by rw [List.take_zero];exact rfl,HO1.out⟩
      case round =>
       obtain ⟨i,v,ow,rfl,hin,hpg,hO⟩:=hrel
       obtain ⟨vq,vqc,rfl⟩:=ownsRow_form hO.own
       have HO:=Lib.hid hO
       clear hO HO1
       by_cases hlt:i<np
       ·skip
        have hnp:0<np:=by omega
        have hjl:(i+(t % (np:Int)).toNat) % np<np:=Nat.mod_lt _ hnp
        obtain ⟨q,hq⟩:∃ q,ps[(i+(t % (np:Int)).toNat) % np]? = some q:=⟨_,List.getElem?_eq_getElem (by rw [HN.out.2.1];exact hjl)⟩
        have htk:(turned ps (t % (np:Int)).toNat).take (i+1)=(turned ps (t % (np:Int)).toNat).take i ++ [q]:=by
         rw [List.take_add_one,turned_at ps _ (by rw [HN.out.2.1];exact hlt),HN.out.2.1,List.getD,hq]
         rfl
        have htm:=turn_mod hnp i t
        have hs1:=tmod_small t hnp
        have hs2:=tmod_small ((i:Int)+Int.tmod t np) hnp
        obtain ⟨j,hj⟩:∃ j,(i+(t % (np:Int)).toNat) % np=j:=⟨_,rfl⟩
        rw [hj] at htm hjl hq
        obtain ⟨m1,hm1⟩:∃ m,Int.tmod t np=m:=⟨_,rfl⟩
        rw [hm1] at htm hs1 hs2
        obtain ⟨m2,hm2⟩:∃ m,Int.tmod ((i:Int)+m1) np=m:=⟨_,rfl⟩
        rw [hm2] at htm hs2
        have hn8:=HN2.out
        have hw1:IntKind.i64.wrap m1=m1:=i64_of (by omega)
        have hw2:IntKind.i64.wrap ((i:Int)+m1)=(i:Int)+m1:=i64_of (by omega)
        have hw3:IntKind.i64.wrap m2=m2:=i64_of (by omega)
        have hw4:IntKind.i64.wrap (m2+(np:Int))=m2+(np:Int):=i64_of (by omega)
        have hw5:IntKind.i64.wrap (j:Int)=(j:Int):=i64_of (by omega)
        have hnz:¬np=0:=by omega
        have hj0:(0:Int)≤(j:Int):=by omega
        have hj1:(j:Int)<(np:Int):=by omega
        obtain ⟨pb,po,qb,qc,bc,hpp,hrg,hra,hrs⟩:=HW.out.1.dd.at hq
        dsimp only at hpp
        subst hpp
        obtain ⟨kd,y1,y2,y3,body⟩:=q
        dsimp only at hrg hra hrs
        have hbw:=HO.out.bel
        have z0:=hrg 0 _ rfl
        have z1:=hrg 1 _ rfl
        have z2:=hrg 2 _ rfl
        have z3:=hrg 3 _ rfl
        have z4:=hrg 4 _ rfl
        rw [Nat.add_zero] at z0
        replace z0:=(hbw.cell (World.block_lt_of_cell? _ _ z0)).trans z0
        replace z1:=(hbw.cell (World.block_lt_of_cell? _ _ z1)).trans z1
        replace z2:=(hbw.cell (World.block_lt_of_cell? _ _ z2)).trans z2
        replace z3:=(hbw.cell (World.block_lt_of_cell? _ _ z3)).trans z3
        replace z4:=(hbw.cell (World.block_lt_of_cell? _ _ z4)).trans z4
        have d4:=(HW.out.1.k6.next hbw).cell (i:=4) rfl
        have x4:=(HO.out.at 0 rfl).cell (i:=4) rfl
        have hii:(i:Int)<(np:Int):=by omega
        have hi0:(0:Int)≤(i:Int):=by omega
        have hiw:IntKind.i64.wrap ((i:Int)+1)=((i+1:Nat):Int):=by rw [i64_of (by omega)];rfl
        have hpg2:PG 3 9 EF (λ k=>k<b6) wd ((turned ps (t % (np:Int)).toNat).take (i+1)) (ow ++ [.int .i64 kd,.int .i64 y1,.int .i64 y2,.int .i64 y3,.slice qb body.len qc]):=by
         rw [htk]
         exact PG.app hpg ⟨.slice qb body.len qc,bc, [],rfl,hra,hrs,rfl⟩
        have HE:=Lib.hid (And.intro hlt hpg2)
        clear hpg hpg2 hlt hin hrg hra hrs hbw hq htk hj hs1 hs2 hn8 hnp hjl
        go_upto_region 34 with fail
        have HTr:=Lib.hid (Tr.nil wr)
        refine wp_region_webCR (w0:=wr) [.known (.pointer (some ⟨b9,4,none⟩)),.known (.slice vq i vqc),.known (.pointer (some ⟨b6,4,none⟩)),.known (.slice (some ⟨pb,po,none⟩) np cp2),.known (.int .i64 i),.known (.int .i64 t),.known (.int .i64 np),.known (.int .i64 m1),.known (.int .i64 ((i:Int)+m1)),.known (.int .i64 np),.known (.int .i64 m2),.known (.int .i64 np),.known (.int .i64 (m2+(np:Int))),.known (.int .i64 np),.known (.int .i64 (j:Int)),.known (.pointer (some ⟨pb,po+j*5,none⟩)),.known (.agg #[.int .i64 kd,.int .i64 y1,.int .i64 y2,.int .i64 y3,.slice qb body.len qc]),.rel (λ v W=>∃ L,v = .slice (some ⟨L,0,none⟩) 1 1∧Blk W L 49 [.int .i64 kd,.int .i64 y1,.int .i64 y2,.int .i64 y3,.slice qb body.len qc]) (λ _ => [])] [1,1,1,1,1,1,1,1,1,1,1,1,1,1,1,1,1,1] [] 171 3 #[true,true,true,true,true,true,true,true,true,true,true,true,true,true,true,true,true,true,false,false,false] (by kernel_rfl) (by kernel_rfl) rfl rfl rfl (Nat.le_of_ble_eq_true rfl) ⟨Sp.Mono.known,Sp.Mono.known,Sp.Mono.known,Sp.Mono.known,Sp.Mono.known,Sp.Mono.known,Sp.Mono.known,Sp.Mono.known,Sp.Mono.known,Sp.Mono.known,Sp.Mono.known,Sp.Mono.known,Sp.Mono.known,Sp.Mono.known,Sp.Mono.known,Sp.Mono.known,Sp.Mono.known,(λ _ _ _ hb ⟨L,h1,h2⟩=>⟨L,h1,h2.next hb⟩),trivial⟩ HTr.out.drew (λ _ _ _ _ _ h=>h) (A := ?_) ?_ ?_ ?_
        rotate_left
        ·intro u
         simp only [fillC,Sp.val,Nat.reduceBEq,cond_false,Act.put,List.setIfInBounds_toArray,List.set_cons_zero,List.set_cons_succ]
         rfl
        iterate 17 (refine ob_yes (web_op (o:=_) rfl (λ u W hT hd Q K hK => ?_)) ?_;· (have cc0:=aft x4 hT.bel;have cc1:=aft d4 hT.bel;have cc2:=aft z0 hT.bel;have cc3:=aft z1 hT.bel;have cc4:=aft z2 hT.bel;have cc5:=aft z3 hT.bel;have cc6:=aft z4 hT.bel;go_simp;exact hK.out _ _ (Below.refl _ _) rfl (λ p hp=>by cases hp) List.nodup_nil))
        refine ob_yes (web_op (o:=_) rfl (λ u W hT hd Q K hK => ?_)) ?_
        ·(try simp only [Act.put,List.setIfInBounds_toArray,List.set_cons_zero,List.set_cons_succ] at hK)
         have cc0:=aft x4 hT.bel
         have cc1:=aft d4 hT.bel
         have cc2:=aft z0 hT.bel
         have cc3:=aft z1 hT.bel
         have cc4:=aft z2 hT.bel
         have cc5:=aft z3 hT.bel
         have cc6:=aft z4 hT.bel
         go_simp
         exact hK.out _ _ (Below.new _ _) ⟨_,rfl,Blk.new _ _⟩ (λ p hp=>by cases hp) List.nodup_nil
        exact ob_nil
        intro u wx hT hok
        obtain ⟨h0,h1,h2,h3,h4,h5,h6,h7,h8,h9,h10,h11,h12,h13,h14,h15,h16,h17,_⟩:=hok
        clear h0 h1 h2 h3 h4 h5 h6 h7 h8 h9 h10 h11 h12 h13 h14 h15 h16
        simp only [ownsC,Sp.own,Nat.reduceBEq,cond_false,List.append_nil] at hT
        have d17:=h17 (by kernel_rfl)
        clear h17
        generalize u 17=x17 at *
        obtain ⟨L17,rfl,hB17⟩:=d17
        (try dsimp only [List.nil_append,List.cons_append] at hT)
        have HTE:=Lib.hid hT
        clear hT
        clear HTr x4 d4 z0 z1 z2 z3 z4
        refine wpAny_of_held (S:=λ _=>True) _ _ _ _ ?_
        have hX:=HO.out.below MSt.tt HTE.out.bel
        have hoa:=hX.own
        have hbz:=hX.bel.size
        have hn8:=HN2.out
        have hlt:=HE.out.1
        refine wpAnyH_ready (rs := [18]) (by kernel_rfl) (by simp) ?_
        refine held_cons rfl (λ K hK => ?_) AllReadyH.nil
        refine step_app rfl _ _ 35 rfl TFPs wd.heap.size (.slice vq i vqc) i ow rfl hoa L17 1 1 [.int .i64 kd,.int .i64 y1,.int .i64 y2,.int .i64 y3,.slice qb body.len qc] rfl #[.int .i64 kd,.int .i64 y1,.int .i64 y2,.int .i64 y3,.slice qb body.len qc] hB17 rfl rfl (by simp [Value.oneCell']) Nat.one_pos (by omega) (by omega) hbz ?_
        intro g9 cap9 w9 happ
        have hY:=hX.app MSt.tt happ.toR
        have q4:=(hY.at 0 rfl).cell (i:=4) rfl
        have q4f:=(hY.at 0 rfl).frz 4
        have HZ:Hid (Out 49 5 (λ _ _=>True) wd (w9.setCell ⟨b9,4,none⟩ (.slice (some ⟨g9,0,none⟩) (i+1) cap9)) [(b9,38, [.slice sp2 N sc2,.slice pL N cL,.slice pI 1 cI,.slice pO nO cO,.slice (some ⟨g9,0,none⟩) (i+1) cap9,.slice pA nA cA,.slice tp2 nt tc2])] (.slice (some ⟨g9,0,none⟩) (i+1) cap9) (i+1) (ow ++ [.int .i64 kd,.int .i64 y1,.int .i64 y2,.int .i64 y3,.slice qb body.len qc])):=Lib.hid (hY.set MSt.tt 0 rfl 4 (.slice (some ⟨g9,0,none⟩) (i+1) cap9))
        clear happ hoa hbz hX hY hn8 hlt hB17
        refine hK.out _ _ trivial (λ _ => ?_)
        clear hK K
        (try simp only [Act.put,List.setIfInBounds_toArray,List.set_cons_zero,List.set_cons_succ])
        refine wpAnyH_ready (rs := [19]) (by kernel_rfl) (by simp) ?_
        refine held_cons rfl (λ K hK => ?_) AllReadyH.nil
        go_simp
        refine hK.out _ _ trivial (λ _ => ?_)
        clear hK K
        (try simp only [List.setIfInBounds_toArray,List.set_cons_zero,List.set_cons_succ])
        refine wpAnyH_ready (rs := [20]) (by kernel_rfl) (by simp) ?_
        refine held_cons rfl (λ K hK => ?_) AllReadyH.nil
        go_simp
        refine hK.out _ _ trivial (λ _ => ?_)
        clear hK K
        (try simp only [List.setIfInBounds_toArray,List.set_cons_zero,List.set_cons_succ])
        refine wpAnyH_done (by kernel_rfl) ?_ _
        generalize w9.setCell ⟨b9,4,none⟩ (.slice (some ⟨g9,0,none⟩) (i+1) cap9)=w10 at *
        clear q4 q4f HTE HO
        go_wp2_with fail
        go_roundw
        case measure=>simp [intOf];have:=HE.out.1;omega
        case rel=>exact ⟨i+1,_,_,by go_num,HE.out.1,HE.out.2,HZ.out⟩
       ·obtain rfl:np=i:=by omega
        have hii:¬(np:Int)<(np:Int):=by omega
        have hTu:Turn ps (turned ps (t % (np:Int)).toNat):=by rw [←HN.out.2.1];exact turned_any ps t
        have hpl:(turned ps (t % (np:Int)).toNat).length=np:=by rw [turned_len];exact HN.out.2.1
        rw [List.take_of_length_le (by omega)] at hpg
        have hbw:=HO.out.bel
        have hd2:=(HW.out.1.dd).swap (hbw.mono HW.out.1.hbase) (Nat.le_trans HW.out.1.hbase hbw.size) (ps':=(turned ps (t % (np:Int)).toNat)) (pp:=vq) (cp:=vqc) (pc:=ow) (by rw [hpl];exact HO.out.row.turn λ b _ h=>⟨h,rfl⟩) (hpg.turn EF.stay λ k hk hk2=>⟨Nat.lt_of_lt_of_le hk2 hbw.size,hbw.block k hk2⟩) (λ q hq=>turned_mem q hq) (by rw [turned_len])
        have HZ2:Hid (Calls Try.prog 8 #[.agg #[.slice sp2 N sc2,.slice pL N cL,.slice pI 1 cI,.slice pO nO cO,.slice vq np vqc,.slice pA nA cA,.slice tp2 nt tc2]] wr (AnaR l (turned ps (t % (np:Int)).toNat) [0] sts wr)):=Lib.hid (by
         have h:=analyze_any hd2 (Nat.le_refl _) HF.out.1 (by rw [HN.out.1];exact HF.out.2.1) (by rw [HN.out.1];exact HF.out.2.2.1)
         rw [HN.out.1,hpl,HN.out.2.2] at h
         exact h)
        have hAC:=allC_turn HW.out.1.dd.sg HF.out.1 hTu HG.out.1
        have HT:=Lib.hid (And.intro hTu (And.intro hAC (And.intro hpl hbw)))
        clear hTu hAC hpl hbw hpg hd2 hlt hin
        have x0:=(HO.out.at 0 rfl).cell (i:=0) rfl
        have x1:=(HO.out.at 0 rfl).cell (i:=1) rfl
        have x2:=(HO.out.at 0 rfl).cell (i:=2) rfl
        have x3:=(HO.out.at 0 rfl).cell (i:=3) rfl
        have x4:=(HO.out.at 0 rfl).cell (i:=4) rfl
        have x5:=(HO.out.at 0 rfl).cell (i:=5) rfl
        have x6:=(HO.out.at 0 rfl).cell (i:=6) rfl
        go_wp2_with fail
        refine HZ2.out.mono ?_;rintro en wE ⟨e,y1,y2,y3,rv,ov,rfl,hbel,hiff,hbad,hok⟩
        clear HZ2 x0 x1 x2 x3 x4 x5 x6
        obtain rfl:=hiff.2 HT.out.2.1.1
        obtain ⟨out2,dn2,hr2,ho2,hI2,hF2⟩:=hok rfl
        have hlen:=ordI_len HT.out.1 HG.out.2.1 HG.out.2.2.1 HG.out.1.2.2.2.2.2.1 hI2 hF2 HT.out.2.1.1.2.2.2.2.2.1
        clear hbad hok hiff hI2 hF2
        obtain ⟨rp2,rc2,rfl,_⟩:=hr2.form
        obtain ⟨op2,oc2,rfl,_⟩:=ho2.form
        rw [hlen,HN.out.1]
        rw [HN.out.1,HT.out.2.1.2] at hr2
        have n7:=Below.new wE (.cells #[.slice rp2 N rc2,.slice op2 out.length oc2] 41)
        have n8:=Below.new (wE.alloc (.cells #[.slice rp2 N rc2,.slice op2 out.length oc2] 41)) (.cells #[.int .i64 y1,.int .i64 y2,.int .i64 y3] 43)
        have hb8:=Below.next n7 n8
        have hwE:=Below.next HT.out.2.2.2 (Below.next hbel hb8)
        have hw8:=Below.trans HK.out.1 ((Below.next HW.out.2.2 hwE).mono (Nat.le_of_lt HM.out.2.2.2.2))
        have H37:Hid (Below w.heap.size w ((wE.alloc (.cells #[.slice rp2 N rc2,.slice op2 out.length oc2] 41)).alloc (.cells #[.int .i64 y1,.int .i64 y2,.int .i64 y3] 43))∧(Blk ((wE.alloc (.cells #[.slice rp2 N rc2,.slice op2 out.length oc2] 41)).alloc (.cells #[.int .i64 y1,.int .i64 y2,.int .i64 y3] 43)) b7 41 [.slice rp N rc,.slice op out.length oc]∧(Blk ((wE.alloc (.cells #[.slice rp2 N rc2,.slice op2 out.length oc2] 41)).alloc (.cells #[.int .i64 y1,.int .i64 y2,.int .i64 y3] 43)) wE.heap.size 41 [.slice rp2 N rc2,.slice op2 out.length oc2]∧(RO ((wE.alloc (.cells #[.slice rp2 N rc2,.slice op2 out.length oc2] 41)).alloc (.cells #[.int .i64 y1,.int .i64 y2,.int .i64 y3] 43)) (.slice rp2 N rc2) 1 N (ints (rolesP l ps [0]))∧RO ((wE.alloc (.cells #[.slice rp2 N rc2,.slice op2 out.length oc2] 41)).alloc (.cells #[.int .i64 y1,.int .i64 y2,.int .i64 y3] 43)) (.slice rp N rc) 1 N (ints (rolesP l ps [0])))))) :=
         Lib.hid ⟨Below.next HW.out.1.bel hwE,HW.out.2.1.next hwE,(Blk.new (w:=wE) 41 [.slice rp2 N rc2,.slice op2 out.length oc2]).next n8,(hr2.turn (A':=λ _=>True) λ b _ h=>⟨trivial,hb8.block b h⟩).ro,(HL8.out.2.2.1.turn (A':=λ _=>True) λ b _ h=>⟨trivial,hw8.block b (by have:=HBA.out;omega)⟩).ro⟩
        clear n7 n8 hb8 hwE hw8 hr2 ho2 hlen hbel
        obtain ⟨bE,hbE⟩:∃ b,wE.heap.size=b:=⟨_,rfl⟩
        go_upto_region 37 with fail
        rw [hbE] at H37
        change Hid (Below _ _ ((wE.alloc (.cells #[.slice rp2 N rc2,.slice op2 out.length oc2] 41)).alloc (.cells #[.int .i64 y1,.int .i64 y2,.int .i64 y3] 43))∧_) at H37
        generalize ((wE.alloc (.cells #[.slice rp2 N rc2,.slice op2 out.length oc2] 41)).alloc (.cells #[.int .i64 y1,.int .i64 y2,.int .i64 y3] 43))=w37 at *
        clear hbE
        have g0:=H37.out.2.1.cell (i:=0) rfl
        have g1:=H37.out.2.1.cell (i:=1) rfl
        have k0:=H37.out.2.2.1.cell (i:=0) rfl
        have k1:=H37.out.2.2.1.cell (i:=1) rfl
        have HPI:=Lib.hid (pints_any H37.out.2.2.2.1 H37.out.2.2.2.2 rfl (by have:=HF.out.2.2.2;have:=HN.out.1;omega))
        go_wp2_with fail
        refine HPI.out.mono ?_;rintro en w38 ⟨rfl,hb38⟩
        have HB38:=Lib.hid hb38
        replace g1:=(hb38.cell (World.block_lt_of_cell? _ _ g1)).trans g1
        replace k1:=(hb38.cell (World.block_lt_of_cell? _ _ k1)).trans k1
        clear g0 k0 hb38
        go_wp2_with fail
        go_ret
        exact ⟨rfl,Below.next H37.out.1 HB38.out⟩
 ·obtain ⟨rfl,rfl⟩:=hbad he
  have n6:=Below.new w6 (.cells #[.slice none 0 0,.slice none 0 0] 41)
  have n7:=Below.new (w6.alloc (.cells #[.slice none 0 0,.slice none 0 0] 41)) (.cells #[.int .i64 q1,.int .i64 q2,.int .i64 q3] 43)
  have HB:=Lib.hid (Below.next (Below.next HL6.out.bel n6) n7)
  clear hbel hiff hok n6 n7 hbad HL6 HL
  go_wp2_with fail
  go_ret
  exact ⟨rfl,HB.out⟩
open Go.RowKit Go.Deep Go.ChangeShapes Go.WideShapes Go.ChangeAt
theorem own:ownKnob Try.prog.godebug=none:=by kernel_rfl
theorem laidOut:laidOutB Try.prog=true:=by kernel_rfl
theorem open_bytes {H:Type} {enc:TypeId × Value→H} {P:Program} {w:World} {t e:Nat} {v:Value} {d:DataW H} {ps:List MemPlace} {r:Reach} {b0:Nat}
  (ht:P.underlying t=some (.slice e)) (he:P.underlying e=some (.int .u8)) (hc:P.cellsOf e=1)
  (hval:Value.okWide P w r b0 t v) (h:DataW.Trod enc P w 0 (λ _=>true) true t v d ps) :
  ∃ (l:List UInt8) (p:Option Addr) (c:Nat),v = .slice p l.length c∧ROA (λ k=>k<w.heap.size) w v 1 l.length (byteCells l):=by
 obtain ⟨l,h1,h2⟩:=ro_open (α:=UInt8) ht hc Nat.one_pos (λ y => [.int .u8 y.toNat]) (λ _=>rfl) hval h (λ fuel cs x hx _=>by
  obtain ⟨n,rfl,_,hw⟩:=DataW.trod_int he hx
  have hn:0≤n∧n≤255:=by
   have:=hw
   simp only [Lit.wf,decide_eq_true_eq,Bool.and_eq_true,show IntKind.u8.min=0 from rfl,show IntKind.u8.max=255 from rfl] at this
   exact this
  refine ⟨UInt8.ofNat n.toNat,?_⟩
  have e:((UInt8.ofNat n.toNat).toNat:Int)=n:=by
   rw [UInt8.toNat_ofNat']
   omega
  rw [e])
 obtain ⟨p,c,rfl⟩:=h1.form
 have hb:∀ l:List UInt8,l.flatMap (λ y => [Value.int .u8 y.toNat])=byteCells l:=λ l=>by
  unfold byteCells
  induction l with
  | nil=>rfl
  | cons a l ih=>rw [List.flatMap_cons,ih,List.map_cons];rfl
 rw [hb] at h1
 refine ⟨l,p,c,rfl,h1.1,p,c,rfl,?_,λ j u hj => ?_⟩
 ·obtain ⟨fuel,hfu⟩:=h
  rcases open_slice ht hfu with ⟨hcs,_⟩ | ⟨a,len,cap,m,n,D,Pl,hcs,_,hl,hm,hmm,_,hel⟩
  ·simp [Value.cells] at hcs
   simp [hcs.2.1]
  ·simp [Value.cells] at hcs
   obtain ⟨_,rfl,rfl⟩:=hcs
   have:m=c:=by simpa using hmm
   simpa [this] using hl
 ·obtain ⟨b,o,rfl⟩:=h1.sl hj
  have hcell:=h1.cell hj
  exact ⟨b,o,rfl,World.block_lt_of_cell? _ _ hcell,hcell⟩
open Go.ChangeShapes Go.WideShapes Go.ChangeAt Go.RowKit
set_option maxRecDepth 100000 in
theorem flatOrders_lifted (os:Os) (started:os.Started) (H:Type) (enc:TypeId × Value→H) :
  ReturnsInHanded {} Try.checked os 3 .any (Rows.flatOrdersSpec.pre6 enc Try.prog Try.f3 Rows.flatOrdersRow.domain false) (Rows.flatOrdersSpec.post enc Try.prog Try.f3 false true false false):=by
 refine returnsInHanded_of_change_sized (C:=Try.checked) own started (by kernel_rfl) Try.func3
  (ChangeSpec.witness6 (enc:=enc) (C:=Try.checked) false ⟨#[],#[.slice none 0 0,.int .i64 0], []⟩ 8 (by kernel_rfl) (by kernel_rfl) (by kernel_rfl) (by kernel_rfl)) ?_
 intro W base args ds gs before hval0 hW hcnd hsz _
 have hval:∀ (j:Nat) t v,Try.f3.params[j]? = some t→args[j]? = some v→Value.okWide Try.prog W .any base t v:=hval0
 have hW':=hW
 obtain ⟨p,q,hA0,hV,rfl,hfz,hnd⟩:=hW
 have hA:DataW.TrodAll enc Try.prog W 0 (λ _=>true) true Try.f3.params.toList args.toList ds p:=hA0
 have hsz':(DataW.weightsEach Try.prog (Try.f3.params.toList++Rows.flatOrdersSpec.plain.varTypes Try.prog) (ds++gs)).all (· ≤ reachBytes)=true:=hsz
 rw [Try.params3] at hA hval hsz'
 obtain ⟨v0,vs0,d0,ds0,p0,q0,hargs,rfl,rfl,h0,r0⟩:=trodAll_cons hA
 obtain ⟨v1,vs1,d1,ds1,p1,q1,rfl,rfl,rfl,h1,r1⟩:=trodAll_cons r0
 obtain ⟨rfl,rfl,rfl⟩:=trodAll_nil r1
 obtain rfl:args = #[v0,v1]:=by cases args;simp_all
 obtain ⟨rfl,rfl⟩:=trodVars_none hV
 have lt0:∀ x∈p0,x.block<W.heap.size:=by obtain ⟨m,hm⟩:=h0;exact DataW.trod_lt m _ _ _ hm
 have lt1:∀ x∈p1,x.block<W.heap.size:=by obtain ⟨m,hm⟩:=h1;exact DataW.trod_lt m _ _ _ hm
 have hrb:=reachBytes_lt
 obtain ⟨l0,pl0,cl0,e0,ro0⟩:=open_bytes Try.underlying22 Try.underlying5 (by kernel_rfl) (hval 0 22 v0 rfl rfl) h0
 subst e0
 obtain ⟨x1,e1,_,_,w1⟩:=open_int Try.underlying3 (hval 1 3 v1 rfl rfl) h1
 subst e1
 clear hA0 hval0 hsz'
 refine (law_any ro0 rfl).mono λ e W' ⟨he,bel⟩ => ?_
 subst he
 exact ⟨_,rfl,_,_,_, [],_, [],hW',trodAll_mk1 (shut_bool Try.underlying4 _),(trodAll_cons_mk (Below.trod laidOut (by kernel_rfl) (of_decide_eq_true (by kernel_rfl)) h0 bel lt0) (trodAll_cons_mk (Below.trod laidOut (by kernel_rfl) (of_decide_eq_true (by kernel_rfl)) h1 bel lt1) trodAll_mk0)),rfl,bel.frame _,λ h=>by cases h⟩
theorem flatOrders_holds:Rows.FlatOrdersSaid :=
 OpenClaim.holds_of_wide 3 Try.f3 rfl rfl rfl rfl rfl rfl rfl ⟨rfl,rfl,rfl,rfl,rfl⟩ rfl rfl rfl rfl rfl (by kernel_rfl) Try.func3 (by kernel_rfl)
  (of_decide_eq_true (by kernel_rfl)) (by unfold Func.isWrapper;rw [if_neg (of_decide_eq_false (by kernel_rfl))];exact ⟨rfl,rfl⟩)
  (λ os started H enc _=>flatOrders_lifted os started H enc)
end Go.Proofs.Ytlklleaocbnbcaa
