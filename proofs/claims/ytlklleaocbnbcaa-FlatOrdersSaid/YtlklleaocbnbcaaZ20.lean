import Derived.Test.YtlklleaocbnbcaaZ18
import Derived.Test.YtlklleaocbnbcaaZ19
namespace Go.Proofs.Ytlklleaocbnbcaa
set_option linter.unusedVariables false
open Go.RowKit Go.Sort
def StF:List (Nat × List Bool)→List Value→Prop
 | [],cs=>cs = []
 | s::r,cs=>∃ (p:Option Addr) (n c:Nat) (cs':List Value),cs = [.int .i64 (s.1:Nat),.int .i64 (s.2.length:Nat),.slice p n c]++cs'∧StF r cs'
theorem StF.app:∀ {t s:List (Nat × List Bool)} {cs ds:List Value},StF t cs→StF s ds→StF (t++s) (cs++ds)
 | [],_,_,_,h,hs=>by have:_ = []:=h;subst this;exact hs
 | x::r,_,_,_,⟨p,n,c,cs',h1,h3⟩,hs=>⟨p,n,c,cs'++_,by rw [h1,List.append_assoc],h3.app hs⟩
theorem st_at {A:Nat→Prop} {w:World}:∀ {sts:List (Nat × List Bool)} {stc:List Value} (h:StG A w sts stc) {i:Nat} {s:Nat × List Bool} (hs:sts[i]? = some s),
  ∃ v,(∀ j,j<2→stc[i*2+j]? = [Value.int .i64 (s.1:Nat),v][j]?)∧ROA A w v 1 s.2.length (bools s.2)
 | [],_,_,i,s,hs=>by simp at hs
 | x::r,_,⟨v,cs',h1,h2,h3⟩,0,s,hs=>by
  simp only [List.getElem?_cons_zero,Option.some.injEq] at hs
  subst hs
  refine ⟨v,λ j hj => ?_,h2⟩
  rw [h1,Nat.zero_mul,Nat.zero_add,List.getElem?_append_left (by simpa using hj)]
 | x::r,_,⟨v,cs',h1,h2,h3⟩,i+1,s,hs=>by
  obtain ⟨v',hat,hr⟩:=st_at h3 (i:=i) (s:=s) (by simpa using hs)
  refine ⟨v',λ j hj => ?_,hr⟩
  rw [←hat j hj,h1,show (i+1)*2+j=i*2+j+2 by omega]
  rfl
theorem sigCells_take {l:List Sg} {i:Nat} {x:Sg} (h:l[i]? = some x):sigCells (l.take (i+1))=sigCells (l.take i) ++ [.string x.name,.int .i64 (x.w:Nat),.bool x.sg,.int .i64 (x.words:Nat)]:=by
 rw [List.take_add_one,h]
 exact sigCells_app _ _
theorem sizeSg:(Try.prog.info? 69).map (·.size)=some 4:=by kernel_rfl
theorem infoTS:(Try.prog.info? 54).map (λ i=>(i.zero,i.size,i.bytes))=some (some (.agg #[.string ⟨#[]⟩,.int .i64 0,.bool false,.int .i64 0]),4,40):=by kernel_rfl
theorem TTSs:SlTy Try.prog 34 54 4 40 (.agg #[.string ⟨#[]⟩,.int .i64 0,.bool false,.int .i64 0]):=SlTy.of Try.underlying34 infoTS rfl (by decide)
theorem infoFP:(Try.prog.info? 49).map (λ i=>(i.zero,i.size,i.bytes))=some (some (.agg #[.int .i64 0,.int .i64 0,.int .i64 0,.int .i64 0,.slice none 0 0]),5,56):=by kernel_rfl
theorem TFPs:SlTy Try.prog 35 49 5 56 (.agg #[.int .i64 0,.int .i64 0,.int .i64 0,.int .i64 0,.slice none 0 0]):=SlTy.of Try.underlying35 infoFP rfl (by decide)
theorem infoFT:(Try.prog.info? 99).map (λ i=>(i.zero,i.size,i.bytes))=some (some (.agg #[.int .i64 0,.int .i64 0,.slice none 0 0]),3,40):=by kernel_rfl
theorem TFTs:SlTy Try.prog 36 99 3 40 (.agg #[.int .i64 0,.int .i64 0,.slice none 0 0]):=SlTy.of Try.underlying36 infoFT rfl (by decide)
theorem sizeSt2:(Try.prog.info? 95).map (·.size)=some 2:=by kernel_rfl
def OwnD (l:List Sg) (ps:List Pr) (sts:List (Nat × List Bool)) (PL PI PO PA:Value) (w:World) (e:Ending) (w':World):Prop :=
 ∃ (sp:Option Addr) (sc:Nat) (pp:Option Addr) (cp:Nat) (tp:Option Addr) (tc:Nat) (fpc ftc:List Value),e = .returned (.agg #[.slice sp l.length sc,PL,PI,PO,.slice pp ps.length cp,PA,.slice tp sts.length tc]) ∧
  ROA (From w.heap.size) w' (.slice sp l.length sc) 4 l.length (sigCells l)∧ROA (From w.heap.size) w' (.slice pp ps.length cp) 5 ps.length fpc∧PG 3 9 EF (From w.heap.size) w' ps fpc∧ROA (From w.heap.size) w' (.slice tp sts.length tc) 3 sts.length ftc∧StF sts ftc∧Below w.heap.size w w'
set_option maxRecDepth 100000 in
set_option maxHeartbeats 16000000 in
theorem own_des {w:World} {l:List Sg} {ps:List Pr} {sts:List (Nat × List Bool)} {sp pL pI pO pP pA pT:Option Addr} {sc nL cL nI cI nO cO cP nA cA cT:Nat} {pc stc:List Value}
  (hs:ROA (λ k=>k<w.heap.size) w (.slice sp l.length sc) 4 l.length (sigCells l)) (hl:l.length≤8)
  (hp:ROA (λ k=>k<w.heap.size) w (.slice pP ps.length cP) 5 ps.length pc) (hg:PG 0 8 ER (λ k=>k<w.heap.size) w ps pc) (hps:PsP l.length ps) (hpl:ps.length≤8)
  (ht:ROA (λ k=>k<w.heap.size) w (.slice pT sts.length cT) 2 sts.length stc) (htg:StG (λ k=>k<w.heap.size) w sts stc) (hst:StP l.length sts) (htl:sts.length≤8) :
  Calls Try.prog 7 #[.agg #[.slice sp l.length sc,.slice pL nL cL,.slice pI nI cI,.slice pO nO cO,.slice pP ps.length cP,.slice pA nA cA,.slice pT sts.length cT]] w (OwnD l ps sts (.slice pL nL cL) (.slice pI nI cI) (.slice pO nO cO) (.slice pA nA cA) w):=by
 obtain ⟨N,hN⟩:∃ n,l.length=n:=⟨_,rfl⟩
 obtain ⟨np,hnp⟩:∃ n,ps.length=n:=⟨_,rfl⟩
 obtain ⟨nt,hnt⟩:∃ n,sts.length=n:=⟨_,rfl⟩
 have HS:Hid (ROA (λ k=>k<w.heap.size) w (.slice sp N sc) 4 N (sigCells l)∧l.length=N∧N≤8):=Lib.hid ⟨by rw [←hN];exact hs,hN,by rw [←hN];exact hl⟩
 have HP:Hid (ROA (λ k=>k<w.heap.size) w (.slice pP np cP) 5 np pc∧PG 0 8 ER (λ k=>k<w.heap.size) w ps pc∧PsP l.length ps∧ps.length=np∧np≤8):=Lib.hid ⟨by rw [←hnp];exact hp,hg,hps,hnp,by rw [←hnp];exact hpl⟩
 have HT:Hid (ROA (λ k=>k<w.heap.size) w (.slice pT nt cT) 2 nt stc∧StG (λ k=>k<w.heap.size) w sts stc∧StP l.length sts∧sts.length=nt∧nt≤8):=Lib.hid ⟨by rw [←hnt];exact ht,htg,hst,hnt,by rw [←hnt];exact htl⟩
 rw [hN,hnp,hnt]
 clear hs hl hp hg hps hpl ht htg hst htl hN hnp hnt
 go_enter Try.func7,Try.ntmps7
 go_upto_region 1 with fail
 have hT:=((Tr.nil w).lay 31 [.slice sp N sc,.slice pL nL cL,.slice pI nI cI,.slice pO nO cO,.slice pP np cP,.slice pA nA cA,.slice pT nt cT]).lay 38 [.slice none 0 0,.slice none 0 0,.slice none 0 0,.slice none 0 0,.slice none 0 0,.slice none 0 0,.slice none 0 0]
 rw [World.size_alloc] at hT
 have HB:=Lib.hid hT
 clear hT
 have e1:=(HB.out.at 1 rfl).cell (i:=1) rfl
 have e2:=(HB.out.at 1 rfl).cell (i:=2) rfl
 have e3:=(HB.out.at 1 rfl).cell (i:=3) rfl
 have e5:=(HB.out.at 1 rfl).cell (i:=5) rfl
 go_upto_region 2 with fail
 have hT:=HB.out.lay 38 [.slice none 0 0,.slice pL nL cL,.slice pI nI cI,.slice pO nO cO,.slice none 0 0,.slice pA nA cA,.slice none 0 0]
 simp only [World.size_alloc] at hT
 have HB3:=Lib.hid hT
 change Hid (Tr w _ (((w.alloc (.cells #[.slice sp N sc,.slice pL nL cL,.slice pI nI cI,.slice pO nO cO,.slice pP np cP,.slice pA nA cA,.slice pT nt cT] 31)).alloc (.cells #[.slice none 0 0,.slice none 0 0,.slice none 0 0,.slice none 0 0,.slice none 0 0,.slice none 0 0,.slice none 0 0] 38)).alloc (.cells #[.slice none 0 0,.slice pL nL cL,.slice pI nI cI,.slice pO nO cO,.slice none 0 0,.slice pA nA cA,.slice none 0 0] 38))) at HB3
 generalize ((w.alloc (.cells #[.slice sp N sc,.slice pL nL cL,.slice pI nI cI,.slice pO nO cO,.slice pP np cP,.slice pA nA cA,.slice pT nt cT] 31)).alloc (.cells #[.slice none 0 0,.slice none 0 0,.slice none 0 0,.slice none 0 0,.slice none 0 0,.slice none 0 0,.slice none 0 0] 38)).alloc (.cells #[.slice none 0 0,.slice pL nL cL,.slice pI nI cI,.slice pO nO cO,.slice none 0 0,.slice pA nA cA,.slice none 0 0] 38)=w3 at *
 clear hT e1 e2 e3 e5 HB
 have e0:=(HB3.out.at 2 rfl).cell (i:=0) rfl
 go_wp2_with fail
 go_loopw [22] (λ iv wr=>∃ (i:Nat) (v:Value),iv = .int .i64 (i:Nat)∧i≤N∧Out 54 4 (λ _ _=>True) w wr [(w.heap.size+1+1,38, [v,.slice pL nL cL,.slice pI nI cI,.slice pO nO cO,.slice none 0 0,.slice pA nA cA,.slice none 0 0]),(w.heap.size+1,38, [.slice none 0 0,.slice none 0 0,.slice none 0 0,.slice none 0 0,.slice none 0 0,.slice none 0 0,.slice none 0 0]),(w.heap.size,31, [.slice sp N sc,.slice pL nL cL,.slice pI nI cI,.slice pO nO cO,.slice pP np cP,.slice pA nA cA,.slice pT nt cT])] (v) i (sigCells (l.take i))) (λ iv _=>N-(intOf iv).toNat)
 case atStart=>exact ⟨0,.slice none 0 0,rfl,Nat.zero_le _,.start MSt.tt HB3.out trivial⟩
 case round =>
  obtain ⟨i,v,rfl,hiN,hO⟩:=hrel
  obtain ⟨vp,vc,rfl⟩:=ownsRow_form hO.own
  have HO:=Lib.hid hO
  clear hO e0
  by_cases hlt:i<N
  ·obtain ⟨x,hx⟩:∃ x,l[i]? = some x:=⟨_,List.getElem?_eq_getElem (by rw [HS.out.2.1];exact hlt)⟩
   have hra:RO wr (.slice sp N sc) 4 N (sigCells l):=((MSt.ro _ _ _ _) _ (λ _=>True) _ wr (λ b hb _=>⟨trivial,HO.out.bel.block b hb⟩) HS.out.1).ro
   obtain ⟨sb,so,rfl⟩:=hra.sl (sigCells_at hx).1
   have hc0:=hra.cell (sigCells_at hx).1
   have hc1:=hra.cell (sigCells_at hx).2.1
   have hc2:=hra.cell (sigCells_at hx).2.2.1
   have hc3:=hra.cell (sigCells_at hx).2.2.2
   have HXt:=Lib.hid (sigCells_take hx)
   obtain ⟨xn,xw,xg,xq⟩:=x
   dsimp only at hc0 hc1 hc2 hc3
   have hrg:wr.rangeAt sb (so+i*4) [.string xn,.int .i64 xw,.bool xg,.int .i64 xq]:=λ j u hj=>by
    have hj4:j<4:=by have:=(List.getElem?_eq_some_iff.1 hj).1;simpa using this
    rcases j with _ | _ | _ | _ | j
    ·cases hj;exact hc0
    ·cases hj;rw [Nat.add_assoc];exact hc1
    ·cases hj;rw [Nat.add_assoc];exact hc2
    ·cases hj;rw [Nat.add_assoc];exact hc3
    ·omega
   have hii:(i:Int)<(N:Int):=by omega
   have hi0:(0:Int)≤(i:Int):=by omega
   have hiw:IntKind.i64.wrap ((i:Int)+1)=((i+1:Nat):Int):=by rw [i64_of (by have:=HS.out.2.2;omega)];rfl
   have HLt:=Lib.hid hlt
   clear hc0 hc1 hc2 hc3 hra hx hlt hiN
   go_upto_region 5 with (refine wpList_load_mid rfl 69 _ rfl (sb) (so+i*4) rfl [.string xn,.int .i64 xw,.bool xg,.int .i64 xq] _ hrg Try.underlying69 rfl sizeSg ?_)
   have HO5:=Lib.hid (HO.out.lay MSt.tt 69 [.string xn,.int .i64 xw,.bool xg,.int .i64 xq])
   change Hid (Out _ _ _ w (wr.alloc (.cells #[.string xn,.int .i64 xw,.bool xg,.int .i64 xq] 69)) _ _ _ _) at HO5
   obtain ⟨xb,hxb⟩:∃ b,wr.heap.size=b:=⟨_,rfl⟩
   rw [hxb] at HO5 ⊢
   generalize wr.alloc (.cells #[.string xn,.int .i64 xw,.bool xg,.int .i64 xq] 69)=w5 at *
   clear hxb hrg
   have p0:=(HO5.out.at 1 rfl).cell (i:=0) rfl
   have x0:=(HO5.out.at 0 rfl).cell (i:=0) rfl
   have x1:=(HO5.out.at 0 rfl).cell (i:=1) rfl
   have x2:=(HO5.out.at 0 rfl).cell (i:=2) rfl
   have x3:=(HO5.out.at 0 rfl).cell (i:=3) rfl
   have hoa:=((HO5.out.below MSt.tt (Below.new w5 (.cells #[.string xn,.int .i64 xw,.bool xg,.int .i64 xq] 54)))).own
   have hbz:=(HO5.out.below MSt.tt (Below.new w5 (.cells #[.string xn,.int .i64 xw,.bool xg,.int .i64 xq] 54))).bel.size
   have hnw:(w5.alloc (.cells #[.string xn,.int .i64 xw,.bool xg,.int .i64 xq] 54)).heap[w5.heap.size]? = some (.cells #[.string xn,.int .i64 xw,.bool xg,.int .i64 xq] 54 (0,0)):=heap_alloc_new _ _
   have hb8:i+1≤8:=by have:=HS.out.2.2;have:=HLt.out;omega
   go_upto_region 6 with (at_builtin;go_must (refine wpList_app rfl _ _ 34 rfl TTSs w.heap.size (.slice vp i vc) i (sigCells (l.take i)) rfl hoa w5.heap.size 1 1 [.string xn,.int .i64 xw,.bool xg,.int .i64 xq] rfl #[.string xn,.int .i64 xw,.bool xg,.int .i64 xq] hnw rfl rfl (by simp [Value.oneCell']) Nat.one_pos (by omega) (by omega) hbz ?_;intro g9 cap9 w9 happ;have HY:=Lib.hid (((HO5.out.below MSt.tt (Below.new _ _)).app MSt.tt happ.toR).drop MSt.tt 1);have q0:=(HY.out.at 0 rfl).cell (i:=0) rfl;have q0f:=(HY.out.at 0 rfl).frz 0;clear happ))
   clear hoa hbz hnw x0 x1 x2 x3 p0 hb8
   have HZ:Hid (Out 54 4 (λ _ _=>True) w (w9.setCell ⟨w.heap.size+1+1,0,none⟩ (.slice (some ⟨g9,0,none⟩) (i+1) cap9)) [(w.heap.size+1+1,38, [.slice (some ⟨g9,0,none⟩) (i+1) cap9,.slice pL nL cL,.slice pI nI cI,.slice pO nO cO,.slice none 0 0,.slice pA nA cA,.slice none 0 0]),(w.heap.size+1,38, [.slice none 0 0,.slice none 0 0,.slice none 0 0,.slice none 0 0,.slice none 0 0,.slice none 0 0,.slice none 0 0]),(w.heap.size,31, [.slice (some ⟨sb,so,none⟩) N sc,.slice pL nL cL,.slice pI nI cI,.slice pO nO cO,.slice pP np cP,.slice pA nA cA,.slice pT nt cT])] (.slice (some ⟨g9,0,none⟩) (i+1) cap9) (i+1) (sigCells (l.take (i+1)))):=Lib.hid (by rw [HXt.out];exact HY.out.set MSt.tt 0 rfl 0 (.slice (some ⟨g9,0,none⟩) (i+1) cap9))
   generalize w9.setCell ⟨w.heap.size+1+1,0,none⟩ (.slice (some ⟨g9,0,none⟩) (i+1) cap9)=w10 at *
   clear q0 q0f HY HO5
   go_wp2_with fail
   go_roundw
   case measure=>simp [intOf];have:=HLt.out;omega
   case rel=>exact ⟨i+1,_,by go_num,HLt.out,HZ.out⟩
  ·obtain rfl:N=i:=by omega
   have hii:¬(N:Int)<(N:Int):=by omega
   have HO1:Hid (Out 49 5 (λ A w=>ROA A w (.slice vp N vc) 4 N (sigCells l)∧PG 3 9 EF A w (ps.take 0) []) w wr [(w.heap.size+1+1,38, [.slice vp N vc,.slice pL nL cL,.slice pI nI cI,.slice pO nO cO,.slice none 0 0,.slice pA nA cA,.slice none 0 0]),(w.heap.size+1,38, [.slice none 0 0,.slice none 0 0,.slice none 0 0,.slice none 0 0,.slice none 0 0,.slice none 0 0,.slice none 0 0]),(w.heap.size,31, [.slice sp N sc,.slice pL nL cL,.slice pI nI cI,.slice pO nO cO,.slice pP np cP,.slice pA nA cA,.slice pT nt cT])] (.slice none 0 0) 0 []):=Lib.hid (by
    refine HO.out.turn MSt.tt ((MSt.ro _ _ _ _).and (MSt.pg _ _)) (λ A W _ h=>⟨?_,rfl⟩)
    rw [←HS.out.2.1,List.take_length] at h
    rw [←HS.out.2.1];exact h)
   clear hlt hiN HO
   have d4:=(HO1.out.at 2 rfl).cell (i:=4) rfl
   go_wp2_with fail
   go_loopw [44] (λ iv wr=>∃ (i:Nat) (v:Value) (oc:List Value),iv = .int .i64 (i:Nat)∧i≤np∧Out 49 5 (λ A w=>ROA A w (.slice vp N vc) 4 N (sigCells l)∧PG 3 9 EF A w (ps.take i) oc) w wr [(w.heap.size+1+1,38, [.slice vp N vc,.slice pL nL cL,.slice pI nI cI,.slice pO nO cO,v,.slice pA nA cA,.slice none 0 0]),(w.heap.size+1,38, [.slice none 0 0,.slice none 0 0,.slice none 0 0,.slice none 0 0,.slice none 0 0,.slice none 0 0,.slice none 0 0]),(w.heap.size,31, [.slice sp N sc,.slice pL nL cL,.slice pI nI cI,.slice pO nO cO,.slice pP np cP,.slice pA nA cA,.slice pT nt cT])] (v) i oc) (λ iv _=>np-(intOf iv).toNat)
   case atStart=>exact ⟨0,.slice none 0 0, [],rfl,Nat.zero_le _,HO1.out⟩
   case round =>
    obtain ⟨i,v,oc,rfl,hiN,hO⟩:=hrel
    obtain ⟨vq,vqc,rfl⟩:=ownsRow_form hO.own
    have HO:=Lib.hid hO
    clear hO d4 HO1
    by_cases hlt:i<np
    ·obtain ⟨q,hq⟩:∃ q,ps[i]? = some q:=⟨_,List.getElem?_eq_getElem (by rw [HP.out.2.2.2.1];exact hlt)⟩
     obtain ⟨bv,bc,hat,hbr,hbs⟩:=pg_at HP.out.2.1 hq
     obtain ⟨pb,cb,rfl,_⟩:=hbr.form
     have hqw:=(HP.out.2.2.1.ok q (List.mem_of_getElem? hq))
     have htk:ps.take (i+1)=ps.take i ++ [q]:=by rw [List.take_add_one,hq];rfl
     have hra:RO wr (.slice pP np cP) 5 np pc:=((MSt.ro _ _ _ _) _ (λ _=>True) _ wr (λ b hb _=>⟨trivial,HO.out.bel.block b hb⟩) HP.out.1).ro
     obtain ⟨qb,qo,rfl⟩:=hra.sl (hat 0 (by omega))
     obtain ⟨kd,q1,q2,q3,body⟩:=q
     dsimp only at hat hbr hbs hqw
     have hrg:wr.rangeAt qb (qo+i*5) [.int .i64 kd,.int .i64 q1,.int .i64 q2,.int .i64 q3,.slice pb body.len cb]:=λ j u hj=>by
      have hj5:j<5:=by have:=(List.getElem?_eq_some_iff.1 hj).1;simpa using this
      have:=hra.cell ((hat j hj5).trans hj)
      rwa [←Nat.add_assoc] at this
     have hii:(i:Int)<(np:Int):=by omega
     have hi0:(0:Int)≤(i:Int):=by omega
     have hiw:IntKind.i64.wrap ((i:Int)+1)=((i+1:Nat):Int):=by rw [i64_of (by have:=HP.out.2.2.2.2;omega)];rfl
     have HE:=Lib.hid (And.intro hlt (And.intro htk (And.intro hqw (And.intro hbr hbs))))
     clear hat hra hq htk hqw hbr hbs hlt hiN
     go_upto_region 10 with (refine wpList_load_mid rfl 72 _ rfl (qb) (qo+i*5) rfl [.int .i64 kd,.int .i64 q1,.int .i64 q2,.int .i64 q3,.slice pb body.len cb] _ hrg Try.underlying72 rfl sizePr ?_)
     have HO5:=Lib.hid (HO.out.lay ((MSt.ro _ _ _ _).and (MSt.pg _ _)) 72 [.int .i64 kd,.int .i64 q1,.int .i64 q2,.int .i64 q3,.slice pb body.len cb])
     change Hid (Out _ _ _ w (wr.alloc (.cells #[.int .i64 kd,.int .i64 q1,.int .i64 q2,.int .i64 q3,.slice pb body.len cb] 72)) _ _ _ _) at HO5
     obtain ⟨xb,hxb⟩:∃ b,wr.heap.size=b:=⟨_,rfl⟩
     rw [hxb] at HO5 ⊢
     generalize wr.alloc (.cells #[.int .i64 kd,.int .i64 q1,.int .i64 q2,.int .i64 q3,.slice pb body.len cb] 72)=w5 at *
     clear hxb hrg
     have HTr:=Lib.hid (Tr.nil w5)
     have p4:=(HO5.out.at 1 rfl).cell (i:=4) rfl
     have x0:=(HO5.out.at 0 rfl).cell (i:=0) rfl
     have x1:=(HO5.out.at 0 rfl).cell (i:=1) rfl
     have x2:=(HO5.out.at 0 rfl).cell (i:=2) rfl
     have x3:=(HO5.out.at 0 rfl).cell (i:=3) rfl
     have x4:=(HO5.out.at 0 rfl).cell (i:=4) rfl
     refine wp_region_webCR (w0:=w5) [.known (.pointer (some ⟨w.heap.size+1+1,4,none⟩)),.known (.slice vq i vqc),.known (.pointer (some ⟨xb,0,none⟩)),.known (.int .i64 kd),.known (.pointer (some ⟨xb,1,none⟩)),.known (.agg #[.int .i64 q1,.int .i64 q2,.int .i64 q3]),.known (.pointer (some ⟨xb,4,none⟩)),.known (.slice pb body.len cb),.rel (λ v W=>∃ (pB:Option Addr) (cB:Nat) (bcc:List Value),v = .slice pB body.len cB∧ROA (From w5.heap.size) W (.slice pB body.len cB) 20 body.len bcc∧SF (From w5.heap.size) W body bcc) (λ _ => []),.rel (λ v W=>∃ (pB:Option Addr) (cB:Nat) (bcc:List Value),v = .agg #[.int .i64 kd,.int .i64 q1,.int .i64 q2,.int .i64 q3,.slice pB body.len cB]∧ROA (From w5.heap.size) W (.slice pB body.len cB) 20 body.len bcc∧SF (From w5.heap.size) W body bcc) (λ _ => []),.rel (λ v W=>∃ (L:Nat) (pB:Option Addr) (cB:Nat) (bcc:List Value),v = .slice (some ⟨L,0,none⟩) 1 1∧Blk W L 49 [.int .i64 kd,.int .i64 q1,.int .i64 q2,.int .i64 q3,.slice pB body.len cB]∧ROA (From w5.heap.size) W (.slice pB body.len cB) 20 body.len bcc∧SF (From w5.heap.size) W body bcc) (λ _ => [])] [1,1,1,1,1,1,1,1,1,1,1] [] 59 3 #[true,true,true,true,true,true,true,true,true,true,true,false,false,false] (by kernel_rfl) (by kernel_rfl) rfl rfl rfl (Nat.le_of_ble_eq_true rfl) ⟨Sp.Mono.known,Sp.Mono.known,Sp.Mono.known,Sp.Mono.known,Sp.Mono.known,Sp.Mono.known,Sp.Mono.known,Sp.Mono.known,(λ _ _ _ hb ⟨pB,cB,bcc,h1,h2,h3⟩=>⟨pB,cB,bcc,h1,MSt.ro _ _ _ _ _ _ _ _ (λ b hb1 hb2=>⟨hb1,hb.block b hb2⟩) h2,MSt.sf _ _ _ _ _ _ (λ b hb1 hb2=>⟨hb1,hb.block b hb2⟩) h3⟩),(λ _ _ _ hb ⟨pB,cB,bcc,h1,h2,h3⟩=>⟨pB,cB,bcc,h1,MSt.ro _ _ _ _ _ _ _ _ (λ b hb1 hb2=>⟨hb1,hb.block b hb2⟩) h2,MSt.sf _ _ _ _ _ _ (λ b hb1 hb2=>⟨hb1,hb.block b hb2⟩) h3⟩),(λ _ _ _ hb ⟨L,pB,cB,bcc,h1,h0,h2,h3⟩=>⟨L,pB,cB,bcc,h1,h0.next hb,MSt.ro _ _ _ _ _ _ _ _ (λ b hb1 hb2=>⟨hb1,hb.block b hb2⟩) h2,MSt.sf _ _ _ _ _ _ (λ b hb1 hb2=>⟨hb1,hb.block b hb2⟩) h3⟩),trivial⟩ HTr.out.drew (λ _ _ _ _ _ h=>h) (A := ?_) ?_ ?_ ?_
     rotate_left
     ·intro u
      simp only [fillC,Sp.val,Nat.reduceBEq,cond_false,Act.put,List.setIfInBounds_toArray,List.set_cons_zero,List.set_cons_succ]
      rfl
     iterate 8 (refine ob_yes (web_op (o:=_) rfl (λ u W hT hd Q K hK => ?_)) ?_;· (have cc0:=aft p4 hT.bel;have cc1:=aft x0 hT.bel;have cc2:=aft x1 hT.bel;have cc3:=aft x2 hT.bel;have cc4:=aft x3 hT.bel;have cc5:=aft x4 hT.bel;go_simp;exact hK.out _ _ (Below.refl _ _) rfl (λ p hp=>by cases hp) List.nodup_nil))
     refine ob_yes (web_op (o:=_) rfl (λ u W hT hd Q K hK => ?_)) ?_
     ·(try simp only [Act.put,List.setIfInBounds_toArray,List.set_cons_zero,List.set_cons_succ] at hK)
      have cc0:=aft p4 hT.bel
      have cc1:=aft x0 hT.bel
      have cc2:=aft x1 hT.bel
      have cc3:=aft x2 hT.bel
      have cc4:=aft x3 hT.bel
      have cc5:=aft x4 hT.bel
      go_simp
      refine (sts_any (by have:=HE.out.2.2.1.2.1;omega) HE.out.2.2.1.1 (λ _=>True) W _ _ _ ((MSt.ro _ _ _ _) _ _ _ _ (λ b hb _=>⟨trivial,(Below.next HO5.out.bel hT.bel).block b hb⟩) HE.out.2.2.2.1) ((SR_st _ _) _ _ _ _ (λ b hb _=>⟨trivial,(Below.next HO5.out.bel hT.bel).block b hb⟩) HE.out.2.2.2.2)).mono ?_;rintro e w6 ⟨pB,cB,bcc,rfl,hr9,hf,hb6⟩
      exact hK.out _ _ hb6 ⟨pB,cB,bcc,rfl,ROA.mono hr9 (λ b hb=>Nat.le_trans hT.bel.size hb),SF.mono hf (λ b hb=>Nat.le_trans hT.bel.size hb)⟩ (λ p hp=>by cases hp) List.nodup_nil
     refine ob_yes (web_op (o:=_) rfl (λ u W hT hd Q K hK => ?_)) ?_
     ·have d8:=hd 8 (by kernel_rfl)
      generalize u 8=x8 at *
      obtain ⟨pB,cB,bcc,rfl,hR8,hF8⟩:=d8
      (try simp only [Act.put,List.setIfInBounds_toArray,List.set_cons_zero,List.set_cons_succ] at hK)
      have cc0:=aft p4 hT.bel
      have cc1:=aft x0 hT.bel
      have cc2:=aft x1 hT.bel
      have cc3:=aft x2 hT.bel
      have cc4:=aft x3 hT.bel
      have cc5:=aft x4 hT.bel
      go_simp
      exact hK.out _ _ (Below.refl _ _) ⟨pB,cB,bcc,rfl,hR8,hF8⟩ (λ p hp=>by cases hp) List.nodup_nil
     refine ob_yes (web_op (o:=_) rfl (λ u W hT hd Q K hK => ?_)) ?_
     ·have d9:=hd 9 (by kernel_rfl)
      generalize u 9=x9 at *
      obtain ⟨pB,cB,bcc,rfl,hR9,hF9⟩:=d9
      (try simp only [Act.put,List.setIfInBounds_toArray,List.set_cons_zero,List.set_cons_succ] at hK)
      have cc0:=aft p4 hT.bel
      have cc1:=aft x0 hT.bel
      have cc2:=aft x1 hT.bel
      have cc3:=aft x2 hT.bel
      have cc4:=aft x3 hT.bel
      have cc5:=aft x4 hT.bel
      go_simp
      exact hK.out _ _ (Below.new _ _) ⟨_,pB,cB,bcc,rfl,Blk.new _ _,MSt.ro _ _ _ _ _ _ _ _ (λ b hb1 hb2=>⟨hb1,(Below.new _ _).block b hb2⟩) hR9,MSt.sf _ _ _ _ _ _ (λ b hb1 hb2=>⟨hb1,(Below.new _ _).block b hb2⟩) hF9⟩ (λ p hp=>by cases hp) List.nodup_nil
     exact ob_nil
     intro u wx hT hok
     obtain ⟨h0,h1,h2,h3,h4,h5,h6,h7,h8,h9,h10,_⟩:=hok
     clear h0 h1 h2 h3 h4 h5 h6 h7 h8 h9
     simp only [ownsC,Sp.own,Nat.reduceBEq,cond_false,List.append_nil] at hT
     have d10:=h10 (by kernel_rfl)
     clear h10
     generalize u 10=x10 at *
     obtain ⟨L10,pB,cB,bcc,rfl,hB10,hR10,hF10⟩:=d10
     (try dsimp only [List.nil_append,List.cons_append] at hT)
     have HTE:=Lib.hid hT
     clear hT
     clear HTr p4 x0 x1 x2 x3 x4
     refine wpAny_of_held (S:=λ _=>True) _ _ _ _ ?_
     have HX:=Lib.hid ((HO5.out.drop ((MSt.ro _ _ _ _).and (MSt.pg _ _)) 1).below ((MSt.ro _ _ _ _).and (MSt.pg _ _)) HTE.out.bel)
     have hoa:=HX.out.own
     have hbz:=HX.out.bel.size
     have hb8:i+1≤8:=by have:=HP.out.2.2.2.2;have:=HE.out.1;omega
     refine wpAnyH_ready (rs := [11]) (by kernel_rfl) (by simp) ?_
     refine held_cons rfl (λ K hK => ?_) AllReadyH.nil
     refine step_app rfl _ _ 35 rfl TFPs w.heap.size (.slice vq i vqc) i oc rfl hoa L10 1 1 [.int .i64 kd,.int .i64 q1,.int .i64 q2,.int .i64 q3,.slice pB body.len cB] rfl #[.int .i64 kd,.int .i64 q1,.int .i64 q2,.int .i64 q3,.slice pB body.len cB] hB10 rfl rfl (by simp [Value.oneCell']) Nat.one_pos (by omega) (by omega) hbz ?_
     intro g9 cap9 w9 happ
     refine hK.out _ _ trivial (λ _ => ?_)
     clear hK K
     (try simp only [Act.put,List.setIfInBounds_toArray,List.set_cons_zero,List.set_cons_succ])
     have HW:Hid (Below w5.heap.size w5 wx∧PG 3 9 EF (From w5.heap.size) wx [⟨kd,q1,q2,q3,body⟩] [.int .i64 kd,.int .i64 q1,.int .i64 q2,.int .i64 q3,.slice pB body.len cB]):=Lib.hid ⟨HTE.out.bel,.slice pB body.len cB,bcc, [],rfl,hR10,hF10,rfl⟩
     have HY:Hid (Out 49 5 (λ A w=>ROA A w (.slice vp N vc) 4 N (sigCells l)∧PG 3 9 EF A w (ps.take (i+1)) (oc ++ [.int .i64 kd,.int .i64 q1,.int .i64 q2,.int .i64 q3,.slice pB body.len cB])) w w9 [(w.heap.size+1+1,38, [.slice vp N vc,.slice pL nL cL,.slice pI nI cI,.slice pO nO cO,.slice vq i vqc,.slice pA nA cA,.slice none 0 0]),(w.heap.size+1,38, [.slice none 0 0,.slice none 0 0,.slice none 0 0,.slice none 0 0,.slice none 0 0,.slice none 0 0,.slice none 0 0]),(w.heap.size,31, [.slice sp N sc,.slice pL nL cL,.slice pI nI cI,.slice pO nO cO,.slice (some ⟨qb,qo,none⟩) np cP,.slice pA nA cA,.slice pT nt cT])] (.slice (some ⟨g9,0,none⟩) (i+1) cap9) (i+1) (oc ++ [.int .i64 kd,.int .i64 q1,.int .i64 q2,.int .i64 q3,.slice pB body.len cB])):=Lib.hid (
      (((HO5.out.drop ((MSt.ro _ _ _ _).and (MSt.pg _ _)) 1).more (G':=(λ A w=>ROA A w (.slice vp N vc) 4 N (sigCells l)∧PG 3 9 EF A w (ps.take (i+1)) (oc ++ [.int .i64 kd,.int .i64 q1,.int .i64 q2,.int .i64 q3,.slice pB body.len cB]))) ((MSt.ro _ _ _ _).and (MSt.pg _ _)) (MSt.pg _ _) HW.out.1 HW.out.2 (λ A W h1 h2=>⟨h1.1,by rw [HE.out.2.1];exact PG.app h1.2 h2⟩)).app ((MSt.ro _ _ _ _).and (MSt.pg _ _)) happ.toR))
     have q4:=(HY.out.at 0 rfl).cell (i:=4) rfl
     have q4f:=(HY.out.at 0 rfl).frz 4
     have HZ:Hid (Out 49 5 (λ A w=>ROA A w (.slice vp N vc) 4 N (sigCells l)∧PG 3 9 EF A w (ps.take (i+1)) (oc ++ [.int .i64 kd,.int .i64 q1,.int .i64 q2,.int .i64 q3,.slice pB body.len cB])) w (w9.setCell ⟨w.heap.size+1+1,4,none⟩ (.slice (some ⟨g9,0,none⟩) (i+1) cap9)) [(w.heap.size+1+1,38, [.slice vp N vc,.slice pL nL cL,.slice pI nI cI,.slice pO nO cO,.slice (some ⟨g9,0,none⟩) (i+1) cap9,.slice pA nA cA,.slice none 0 0]),(w.heap.size+1,38, [.slice none 0 0,.slice none 0 0,.slice none 0 0,.slice none 0 0,.slice none 0 0,.slice none 0 0,.slice none 0 0]),(w.heap.size,31, [.slice sp N sc,.slice pL nL cL,.slice pI nI cI,.slice pO nO cO,.slice (some ⟨qb,qo,none⟩) np cP,.slice pA nA cA,.slice pT nt cT])] (.slice (some ⟨g9,0,none⟩) (i+1) cap9) (i+1) (oc ++ [.int .i64 kd,.int .i64 q1,.int .i64 q2,.int .i64 q3,.slice pB body.len cB])):=Lib.hid (HY.out.set ((MSt.ro _ _ _ _).and (MSt.pg _ _)) 0 rfl 4 (.slice (some ⟨g9,0,none⟩) (i+1) cap9))
     clear happ hoa hbz HX HY HW hb8
     refine wpAnyH_ready (rs := [12]) (by kernel_rfl) (by simp) ?_
     refine held_cons rfl (λ K hK => ?_) AllReadyH.nil
     go_simp
     refine hK.out _ _ trivial (λ _ => ?_)
     clear hK K
     (try simp only [List.setIfInBounds_toArray,List.set_cons_zero,List.set_cons_succ])
     refine wpAnyH_ready (rs := [13]) (by kernel_rfl) (by simp) ?_
     refine held_cons rfl (λ K hK => ?_) AllReadyH.nil
     go_simp
     refine hK.out _ _ trivial (λ _ => ?_)
     clear hK K
     (try simp only [List.setIfInBounds_toArray,List.set_cons_zero,List.set_cons_succ])
     refine wpAnyH_done (by kernel_rfl) ?_ _
     generalize w9.setCell ⟨w.heap.size+1+1,4,none⟩ (.slice (some ⟨g9,0,none⟩) (i+1) cap9)=w10 at *
     clear q4 q4f HTE hB10 hR10 hF10 HO5
     go_wp2_with fail
     go_roundw
     case measure=>simp [intOf];have:=HE.out.1;omega
     case rel=>exact ⟨i+1,_,_,by go_num,HE.out.1,HZ.out⟩
    ·obtain rfl:np=i:=by omega
     have hii:¬(np:Int)<(np:Int):=by omega
     have HO3:Hid (Out 99 3 (λ A w=>ROA A w (.slice vp N vc) 4 N (sigCells l)∧(ROA A w (.slice vq np vqc) 5 np oc∧PG 3 9 EF A w ps oc)) w wr [(w.heap.size+1+1,38, [.slice vp N vc,.slice pL nL cL,.slice pI nI cI,.slice pO nO cO,.slice vq np vqc,.slice pA nA cA,.slice none 0 0]),(w.heap.size+1,38, [.slice none 0 0,.slice none 0 0,.slice none 0 0,.slice none 0 0,.slice none 0 0,.slice none 0 0,.slice none 0 0]),(w.heap.size,31, [.slice sp N sc,.slice pL nL cL,.slice pI nI cI,.slice pO nO cO,.slice pP np cP,.slice pA nA cA,.slice pT nt cT])] (.slice none 0 0) 0 []):=Lib.hid (by
      refine HO.out.turn ((MSt.ro _ _ _ _).and (MSt.pg _ _)) ((MSt.ro _ _ _ _).and ((MSt.ro _ _ _ _).and (MSt.pg _ _))) (λ A W h1 h2=>⟨h1.1,h2,?_⟩)
      have h3:=h1.2
      rw [←HP.out.2.2.2.1,List.take_length] at h3
      exact h3)
     clear hlt hiN HO
     have d6:=(HO3.out.at 2 rfl).cell (i:=6) rfl
     go_wp2_with fail
     go_loopw [65] (λ iv wr=>∃ (i:Nat) (v:Value) (tc:List Value),iv = .int .i64 (i:Nat)∧i≤nt∧StF (sts.take i) tc∧Out 99 3 (λ A w=>ROA A w (.slice vp N vc) 4 N (sigCells l)∧(ROA A w (.slice vq np vqc) 5 np oc∧PG 3 9 EF A w ps oc)) w wr [(w.heap.size+1+1,38, [.slice vp N vc,.slice pL nL cL,.slice pI nI cI,.slice pO nO cO,.slice vq np vqc,.slice pA nA cA,v]),(w.heap.size+1,38, [.slice none 0 0,.slice none 0 0,.slice none 0 0,.slice none 0 0,.slice none 0 0,.slice none 0 0,.slice none 0 0]),(w.heap.size,31, [.slice sp N sc,.slice pL nL cL,.slice pI nI cI,.slice pO nO cO,.slice pP np cP,.slice pA nA cA,.slice pT nt cT])] (v) i tc) (λ iv _=>nt-(intOf iv).toNat)
     case atStart=>exact ⟨0,.slice none 0 0, [],rfl,Nat.zero_le _,rfl,HO3.out⟩
     case round =>
      obtain ⟨i,v,tc,rfl,hiN,hSF,hO⟩:=hrel
      obtain ⟨vt,vtc,rfl⟩:=ownsRow_form hO.own
      have HO:=Lib.hid hO
      have HSF:=Lib.hid hSF
      clear hO d6 HO3 hSF
      by_cases hlt:i<nt
      ·obtain ⟨s,hs⟩:∃ s,sts[i]? = some s:=⟨_,List.getElem?_eq_getElem (by rw [HT.out.2.2.2.1];exact hlt)⟩
       obtain ⟨bv,hat,hbr⟩:=st_at HT.out.2.1 hs
       obtain ⟨pv,cv,rfl,_⟩:=hbr.form
       have hsw:=(HT.out.2.2.1.ok s (List.mem_of_getElem? hs))
       have htk:sts.take (i+1)=sts.take i ++ [s]:=by rw [List.take_add_one,hs];rfl
       have hra:RO wr (.slice pT nt cT) 2 nt stc:=((MSt.ro _ _ _ _) _ (λ _=>True) _ wr (λ b hb _=>⟨trivial,HO.out.bel.block b hb⟩) HT.out.1).ro
       obtain ⟨qb,qo,rfl⟩:=hra.sl (hat 0 (by omega))
       obtain ⟨s1,bl⟩:=s
       dsimp only at hat hbr hsw
       have hrg:wr.rangeAt qb (qo+i*2) [.int .i64 s1,.slice pv bl.length cv]:=λ j u hj=>by
        have hj2:j<2:=by have:=(List.getElem?_eq_some_iff.1 hj).1;simpa using this
        have:=hra.cell ((hat j hj2).trans hj)
        rwa [←Nat.add_assoc] at this
       have hii:(i:Int)<(nt:Int):=by omega
       have hi0:(0:Int)≤(i:Int):=by omega
       have hiw:IntKind.i64.wrap ((i:Int)+1)=((i+1:Nat):Int):=by rw [i64_of (by have:=HT.out.2.2.2.2;omega)];rfl
       have HE:=Lib.hid (And.intro hlt (And.intro htk (And.intro hsw hbr)))
       clear hat hra hs htk hsw hbr hlt hiN
       go_upto_region 15 with (refine wpList_load_mid rfl 95 _ rfl (qb) (qo+i*2) rfl [.int .i64 s1,.slice pv bl.length cv] _ hrg Try.underlying95 rfl sizeSt2 ?_)
       have HO5:=Lib.hid (HO.out.lay ((MSt.ro _ _ _ _).and ((MSt.ro _ _ _ _).and (MSt.pg _ _))) 95 [.int .i64 s1,.slice pv bl.length cv])
       change Hid (Out _ _ _ w (wr.alloc (.cells #[.int .i64 s1,.slice pv bl.length cv] 95)) _ _ _ _) at HO5
       obtain ⟨xb,hxb⟩:∃ b,wr.heap.size=b:=⟨_,rfl⟩
       rw [hxb] at HO5 ⊢
       generalize wr.alloc (.cells #[.int .i64 s1,.slice pv bl.length cv] 95)=w5 at *
       clear hxb hrg
       have HTr:=Lib.hid (Tr.nil w5)
       have p6:=(HO5.out.at 1 rfl).cell (i:=6) rfl
       have x0:=(HO5.out.at 0 rfl).cell (i:=0) rfl
       have x1:=(HO5.out.at 0 rfl).cell (i:=1) rfl
       refine wp_region_webCR (w0:=w5) [.known (.pointer (some ⟨w.heap.size+1+1,6,none⟩)),.known (.slice vt i vtc),.known (.pointer (some ⟨xb,0,none⟩)),.known (.int .i64 s1),.known (.pointer (some ⟨xb,1,none⟩)),.known (.slice pv bl.length cv),.rel (λ v W=>∃ (pO2:Option Addr) (kO cO2:Nat),v = .agg #[.int .i64 bl.length,.slice pO2 kO cO2]) (λ _ => []),.rel (λ v W=>∃ (pO2:Option Addr) (kO cO2:Nat),v = .agg #[.int .i64 s1,.int .i64 bl.length,.slice pO2 kO cO2]) (λ _ => []),.rel (λ v W=>∃ (L:Nat) (pO2:Option Addr) (kO cO2:Nat),v = .slice (some ⟨L,0,none⟩) 1 1∧Blk W L 99 [.int .i64 s1,.int .i64 bl.length,.slice pO2 kO cO2]) (λ _ => [])] [1,1,1,1,1,1,1,1,1] [] 78 3 #[true,true,true,true,true,true,true,true,true,false,false,false] (by kernel_rfl) (by kernel_rfl) rfl rfl rfl (Nat.le_of_ble_eq_true rfl) ⟨Sp.Mono.known,Sp.Mono.known,Sp.Mono.known,Sp.Mono.known,Sp.Mono.known,Sp.Mono.known,(λ _ _ _ _ h=>h),(λ _ _ _ _ h=>h),(λ _ _ _ hb ⟨L,pO2,kO,cO2,h1,h0⟩=>⟨L,pO2,kO,cO2,h1,h0.next hb⟩),trivial⟩ HTr.out.drew (λ _ _ _ _ _ h=>h) (A := ?_) ?_ ?_ ?_
       rotate_left
       ·intro u
        simp only [fillC,Sp.val,Nat.reduceBEq,cond_false,Act.put,List.setIfInBounds_toArray,List.set_cons_zero,List.set_cons_succ]
        rfl
       iterate 6 (refine ob_yes (web_op (o:=_) rfl (λ u W hT hd Q K hK => ?_)) ?_;· (have cc0:=aft p6 hT.bel;have cc1:=aft x0 hT.bel;have cc2:=aft x1 hT.bel;go_simp;exact hK.out _ _ (Below.refl _ _) rfl (λ p hp=>by cases hp) List.nodup_nil))
       refine ob_yes (web_op (o:=_) rfl (λ u W hT hd Q K hK => ?_)) ?_
       ·(try simp only [Act.put,List.setIfInBounds_toArray,List.set_cons_zero,List.set_cons_succ] at hK)
        have cc0:=aft p6 hT.bel
        have cc1:=aft x0 hT.bel
        have cc2:=aft x1 hT.bel
        go_simp
        refine (own_any ((MSt.ro _ _ _ _) _ (λ _=>True) _ W (λ b hb _=>⟨trivial,(Below.next HO5.out.bel hT.bel).block b hb⟩) HE.out.2.2.2) HE.out.2.2.1.2.1 (by have:=HE.out.2.2.1.2.2;omega)).mono ?_;rintro e w6 ⟨pO2,kO,cO2,rfl,hb6⟩
        exact hK.out _ _ hb6 ⟨pO2,kO,cO2,rfl⟩ (λ p hp=>by cases hp) List.nodup_nil
       refine ob_yes (web_op (o:=_) rfl (λ u W hT hd Q K hK => ?_)) ?_
       ·have d6:=hd 6 (by kernel_rfl)
        generalize u 6=x6 at *
        obtain ⟨pO2,kO,cO2,rfl⟩:=d6
        (try simp only [Act.put,List.setIfInBounds_toArray,List.set_cons_zero,List.set_cons_succ] at hK)
        have cc0:=aft p6 hT.bel
        have cc1:=aft x0 hT.bel
        have cc2:=aft x1 hT.bel
        go_simp
        exact hK.out _ _ (Below.refl _ _) ⟨pO2,kO,cO2,rfl⟩ (λ p hp=>by cases hp) List.nodup_nil
       refine ob_yes (web_op (o:=_) rfl (λ u W hT hd Q K hK => ?_)) ?_
       ·have d7:=hd 7 (by kernel_rfl)
        generalize u 7=x7 at *
        obtain ⟨pO2,kO,cO2,rfl⟩:=d7
        (try simp only [Act.put,List.setIfInBounds_toArray,List.set_cons_zero,List.set_cons_succ] at hK)
        have cc0:=aft p6 hT.bel
        have cc1:=aft x0 hT.bel
        have cc2:=aft x1 hT.bel
        go_simp
        exact hK.out _ _ (Below.new _ _) ⟨_,pO2,kO,cO2,rfl,Blk.new _ _⟩ (λ p hp=>by cases hp) List.nodup_nil
       exact ob_nil
       intro u wx hT hok
       obtain ⟨h0,h1,h2,h3,h4,h5,h6,h7,h8,_⟩:=hok
       clear h0 h1 h2 h3 h4 h5 h6 h7
       simp only [ownsC,Sp.own,Nat.reduceBEq,cond_false,List.append_nil] at hT
       have d8:=h8 (by kernel_rfl)
       clear h8
       generalize u 8=x8 at *
       obtain ⟨L8,pO2,kO,cO2,rfl,hB8⟩:=d8
       (try dsimp only [List.nil_append,List.cons_append] at hT)
       have HTE:=Lib.hid hT
       clear hT
       clear HTr p6 x0 x1
       refine wpAny_of_held (S:=λ _=>True) _ _ _ _ ?_
       have HX:=Lib.hid ((HO5.out.drop ((MSt.ro _ _ _ _).and ((MSt.ro _ _ _ _).and (MSt.pg _ _))) 1).below ((MSt.ro _ _ _ _).and ((MSt.ro _ _ _ _).and (MSt.pg _ _))) HTE.out.bel)
       have hoa:=HX.out.own
       have hbz:=HX.out.bel.size
       have hb8:i+1≤8:=by have:=HT.out.2.2.2.2;have:=HE.out.1;omega
       refine wpAnyH_ready (rs := [9]) (by kernel_rfl) (by simp) ?_
       refine held_cons rfl (λ K hK => ?_) AllReadyH.nil
       refine step_app rfl _ _ 36 rfl TFTs w.heap.size (.slice vt i vtc) i tc rfl hoa L8 1 1 [.int .i64 s1,.int .i64 bl.length,.slice pO2 kO cO2] rfl #[.int .i64 s1,.int .i64 bl.length,.slice pO2 kO cO2] hB8 rfl rfl (by simp [Value.oneCell']) Nat.one_pos (by omega) (by omega) hbz ?_
       intro g9 cap9 w9 happ
       refine hK.out _ _ trivial (λ _ => ?_)
       clear hK K
       (try simp only [Act.put,List.setIfInBounds_toArray,List.set_cons_zero,List.set_cons_succ])
       have HY:Hid (Out 99 3 (λ A w=>ROA A w (.slice vp N vc) 4 N (sigCells l)∧(ROA A w (.slice vq np vqc) 5 np oc∧PG 3 9 EF A w ps oc)) w w9 [(w.heap.size+1+1,38, [.slice vp N vc,.slice pL nL cL,.slice pI nI cI,.slice pO nO cO,.slice vq np vqc,.slice pA nA cA,.slice vt i vtc]),(w.heap.size+1,38, [.slice none 0 0,.slice none 0 0,.slice none 0 0,.slice none 0 0,.slice none 0 0,.slice none 0 0,.slice none 0 0]),(w.heap.size,31, [.slice sp N sc,.slice pL nL cL,.slice pI nI cI,.slice pO nO cO,.slice pP np cP,.slice pA nA cA,.slice (some ⟨qb,qo,none⟩) nt cT])] (.slice (some ⟨g9,0,none⟩) (i+1) cap9) (i+1) (tc ++ [.int .i64 s1,.int .i64 bl.length,.slice pO2 kO cO2])):=Lib.hid (HX.out.app ((MSt.ro _ _ _ _).and ((MSt.ro _ _ _ _).and (MSt.pg _ _))) happ.toR)
       have q6:=(HY.out.at 0 rfl).cell (i:=6) rfl
       have q6f:=(HY.out.at 0 rfl).frz 6
       have HZ:Hid (Out 99 3 (λ A w=>ROA A w (.slice vp N vc) 4 N (sigCells l)∧(ROA A w (.slice vq np vqc) 5 np oc∧PG 3 9 EF A w ps oc)) w (w9.setCell ⟨w.heap.size+1+1,6,none⟩ (.slice (some ⟨g9,0,none⟩) (i+1) cap9)) [(w.heap.size+1+1,38, [.slice vp N vc,.slice pL nL cL,.slice pI nI cI,.slice pO nO cO,.slice vq np vqc,.slice pA nA cA,.slice (some ⟨g9,0,none⟩) (i+1) cap9]),(w.heap.size+1,38, [.slice none 0 0,.slice none 0 0,.slice none 0 0,.slice none 0 0,.slice none 0 0,.slice none 0 0,.slice none 0 0]),(w.heap.size,31, [.slice sp N sc,.slice pL nL cL,.slice pI nI cI,.slice pO nO cO,.slice pP np cP,.slice pA nA cA,.slice (some ⟨qb,qo,none⟩) nt cT])] (.slice (some ⟨g9,0,none⟩) (i+1) cap9) (i+1) (tc ++ [.int .i64 s1,.int .i64 bl.length,.slice pO2 kO cO2])):=Lib.hid (HY.out.set ((MSt.ro _ _ _ _).and ((MSt.ro _ _ _ _).and (MSt.pg _ _))) 0 rfl 6 (.slice (some ⟨g9,0,none⟩) (i+1) cap9))
       clear happ hoa hbz HX HY hb8
       refine wpAnyH_ready (rs := [10]) (by kernel_rfl) (by simp) ?_
       refine held_cons rfl (λ K hK => ?_) AllReadyH.nil
       go_simp
       refine hK.out _ _ trivial (λ _ => ?_)
       clear hK K
       (try simp only [List.setIfInBounds_toArray,List.set_cons_zero,List.set_cons_succ])
       refine wpAnyH_ready (rs := [11]) (by kernel_rfl) (by simp) ?_
       refine held_cons rfl (λ K hK => ?_) AllReadyH.nil
       go_simp
       refine hK.out _ _ trivial (λ _ => ?_)
       clear hK K
       (try simp only [List.setIfInBounds_toArray,List.set_cons_zero,List.set_cons_succ])
       refine wpAnyH_done (by kernel_rfl) ?_ _
       generalize w9.setCell ⟨w.heap.size+1+1,6,none⟩ (.slice (some ⟨g9,0,none⟩) (i+1) cap9)=w10 at *
       clear q6 q6f HTE hB8 HO5
       go_wp2_with fail
       go_roundw
       case measure=>simp [intOf];have:=HE.out.1;omega
       case rel=>exact ⟨i+1,_,_,by go_num,HE.out.1,by rw [HE.out.2.1];exact StF.app HSF.out ⟨pO2,kO,cO2, [],rfl,rfl⟩,HZ.out⟩
      ·obtain rfl:nt=i:=by omega
       have hii:¬(nt:Int)<(nt:Int):=by omega
       clear hlt hiN
       have y0:=(HO.out.at 0 rfl).cell (i:=0) rfl
       have z0:=(HO.out.at 1 rfl).cell (i:=0) rfl
       have zf0:=(HO.out.at 1 rfl).frz 0
       have y1:=(HO.out.at 0 rfl).cell (i:=1) rfl
       have z1:=(HO.out.at 1 rfl).cell (i:=1) rfl
       have zf1:=(HO.out.at 1 rfl).frz 1
       have y2:=(HO.out.at 0 rfl).cell (i:=2) rfl
       have z2:=(HO.out.at 1 rfl).cell (i:=2) rfl
       have zf2:=(HO.out.at 1 rfl).frz 2
       have y3:=(HO.out.at 0 rfl).cell (i:=3) rfl
       have z3:=(HO.out.at 1 rfl).cell (i:=3) rfl
       have zf3:=(HO.out.at 1 rfl).frz 3
       have y4:=(HO.out.at 0 rfl).cell (i:=4) rfl
       have z4:=(HO.out.at 1 rfl).cell (i:=4) rfl
       have zf4:=(HO.out.at 1 rfl).frz 4
       have y5:=(HO.out.at 0 rfl).cell (i:=5) rfl
       have z5:=(HO.out.at 1 rfl).cell (i:=5) rfl
       have zf5:=(HO.out.at 1 rfl).frz 5
       have y6:=(HO.out.at 0 rfl).cell (i:=6) rfl
       have z6:=(HO.out.at 1 rfl).cell (i:=6) rfl
       have zf6:=(HO.out.at 1 rfl).frz 6
       have HZ:=Lib.hid (((((((HO.out.set ((MSt.ro _ _ _ _).and ((MSt.ro _ _ _ _).and (MSt.pg _ _))) 1 rfl 0 (.slice vp N vc)).set ((MSt.ro _ _ _ _).and ((MSt.ro _ _ _ _).and (MSt.pg _ _))) 1 rfl 1 (.slice pL nL cL)).set ((MSt.ro _ _ _ _).and ((MSt.ro _ _ _ _).and (MSt.pg _ _))) 1 rfl 2 (.slice pI nI cI)).set ((MSt.ro _ _ _ _).and ((MSt.ro _ _ _ _).and (MSt.pg _ _))) 1 rfl 3 (.slice pO nO cO)).set ((MSt.ro _ _ _ _).and ((MSt.ro _ _ _ _).and (MSt.pg _ _))) 1 rfl 4 (.slice vq np vqc)).set ((MSt.ro _ _ _ _).and ((MSt.ro _ _ _ _).and (MSt.pg _ _))) 1 rfl 5 (.slice pA nA cA)).set ((MSt.ro _ _ _ _).and ((MSt.ro _ _ _ _).and (MSt.pg _ _))) 1 rfl 6 (.slice vt nt vtc))
       have s0:=(HZ.out.at 1 rfl).cell (i:=0) rfl
       have s1:=(HZ.out.at 1 rfl).cell (i:=1) rfl
       have s2:=(HZ.out.at 1 rfl).cell (i:=2) rfl
       have s3:=(HZ.out.at 1 rfl).cell (i:=3) rfl
       have s4:=(HZ.out.at 1 rfl).cell (i:=4) rfl
       have s5:=(HZ.out.at 1 rfl).cell (i:=5) rfl
       have s6:=(HZ.out.at 1 rfl).cell (i:=6) rfl
       go_wp2_with fail
       refine bodyPost_ret (v := .agg #[.slice vp N vc,.slice pL nL cL,.slice pI nI cI,.slice pO nO cO,.slice vq np vqc,.slice pA nA cA,.slice vt nt vtc]) (by simp [results,Try.results7,go_sem,s0,s1,s2,s3,s4,s5,s6]) rfl ?_
       have h1:=HS.out.2.1
       have h2:=HP.out.2.2.2.1
       have h3:=HT.out.2.2.2.1
       have hsf:=HSF.out
       rw [←h3,List.take_length] at hsf
       subst h1 h2 h3
       exact ⟨vp,vc,vq,vqc,vt,vtc,oc,tc,rfl,ROA.mono HZ.out.g.1 (λ b hb=>hb.1),ROA.mono HZ.out.g.2.1 (λ b hb=>hb.1),HZ.out.g.2.2.turn EF.stay (λ b hb _=>⟨hb.1,rfl⟩),ROA.mono HZ.out.row (λ b hb=>hb.1),hsf,HZ.out.bel⟩
end Go.Proofs.Ytlklleaocbnbcaa
