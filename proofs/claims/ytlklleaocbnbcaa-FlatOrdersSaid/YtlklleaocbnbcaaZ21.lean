import Derived.Test.YtlklleaocbnbcaaZ20
import Derived.Lib.SliceRun
import Derived.Deep.CutBlock
namespace Go.Proofs.Ytlklleaocbnbcaa
set_option linter.unusedVariables false
open Go.RowKit Go.Sort
set_option maxRecDepth 100000 in
theorem psize_any (x:Sg) (w:World):Calls Try.prog 64 #[.agg #[.string x.name,.int .i64 (x.w:Nat),.bool x.sg,.int .i64 (x.words:Nat)]] w λ e w'=>e = .returned (.int .i64 (x.size:Nat))∧Below w.heap.size w w':=by
 obtain ⟨xn,xw,xg,xq⟩:=x
 have hb1:=Lib.hid (Below.new w (.cells #[.string xn,.int .i64 xw,.bool xg,.int .i64 xq] 54))
 unfold Sg.size
 dsimp only
 by_cases hq:0<xq
 ·have hqi:(0:Int)<(xq:Int):=by omega
  rw [if_pos hq]
  clear hq
  go_enter Try.func64,Try.ntmps64
  go_wp2_with fail
  go_ret
  exact ⟨rfl,hb1.out⟩
 ·have hqi:¬(0:Int)<(xq:Int):=by omega
  rw [if_neg hq]
  clear hq
  go_enter Try.func64,Try.ntmps64
  go_wp2_with fail
  go_ret
  exact ⟨rfl,hb1.out⟩
theorem rowTo_low (l:List Bool) (L lo w:Nat):∀ i,i≤lo→rowTo l L lo w i=rowTo l L lo w 0
 | 0,_=>rfl
 | i+1,h=>by rw [rowTo_skip _ _ _ _ _ (by omega)];exact rowTo_low l L lo w i (by omega)
theorem rowTo_high (l:List Bool) (L lo w i:Nat) (h:lo+w≤i∨L≤i):rowTo l L lo w i=orBits L l lo w:=by
 unfold rowTo orBits
 refine List.map_congr_left λ j hj => ?_
 have hj':=List.mem_range.1 hj
 congr 1
 by_cases e:lo≤j∧j<lo+w
 ·rw [decide_eq_true (by omega:j<i),Bool.true_and]
 ·have:(decide (lo≤j) && decide (j<lo+w))=false:=by
   rw [Bool.eq_false_iff];intro hh;simp at hh;exact e hh
  rw [this,Bool.and_false]
structure UsU (base g:Nat) (w W:World) (V0:Nat→Value) (u:Us) (V:Nat→Value):Prop where
 us:UsM base g W u V
 up:Upd (FV g V0) (FV g V) w W
section
variable {base g:Nat} {w W W':World} {V0 V:Nat→Value} {u:Us}
theorem UsU.start (h:UsM base g w u V):UsU base g w w V u V:=⟨h,Upd.refl _ _⟩
theorem UsU.below (h:UsU base g w W V0 u V) (hb:Below W.heap.size W W'):UsU base g w W' V0 u V:=⟨h.us.below hb,h.up.trans (Upd.below hb)⟩
theorem UsU.bit (h:UsU base g w W V0 u V) {k i b c:Nat} (hk:k<u.length) (hi:i<(u.getD k []).length) (hv:V k = .slice (some ⟨b,0,none⟩) (u.getD k []).length c) (x:Bool) :
  UsU base g w (W.setCell ⟨b,i,none⟩ (.bool x)) V0 (u.set k ((u.getD k []).set i x)) V :=
 ⟨(h.us.bit hk hi hv x).1,h.up.trans ⟨rfl,rfl,rfl,by simp,λ j _ hn=>Below.heap_setCell _ _ _ _ (λ e=>hn (.inr ⟨k,by rw [hv,e];rfl⟩)),λ j hj => .inl hj⟩⟩
theorem UsU.fresh (h:UsU base g w W V0 u V) {k m:Nat} (hk:k<u.length) (h0:u.getD k [] = []) (hn:0<m) (hm:m≤1000000) :
  UsU base g w ((W.alloc (.cells (bools (List.replicate m false)).toArray 4)).setCell ⟨g,k,none⟩ (.slice (some ⟨W.heap.size,0,none⟩) m m)) V0 (u.set k (List.replicate m false)) (λ j=>if j=k then .slice (some ⟨W.heap.size,0,none⟩) m m else V j):=by
 obtain ⟨h1,h2⟩:=h.us.fresh hk h0 hn hm
 have hb:=Below.new W (.cells (bools (List.replicate m false)).toArray 4)
 refine ⟨h1,h.up.trans ⟨rfl,rfl,rfl,Nat.le_trans hb.size (by simp),λ j hj hn => ?_,λ j hj => ?_⟩⟩
 ·rw [Below.heap_setCell _ _ _ _ (λ e=>hn (.inl e))]
  exact hb.block j hj
 ·rcases hj with e | ⟨i,hi⟩
  ·exact .inl (.inl e)
  ·dsimp only at hi
   split at hi
   ·have e:W.heap.size=j:=by simpa [Value.ownBlock] using hi
    exact .inr (by omega)
   ·exact .inl (.inr ⟨i,hi⟩)
end
theorem eq_nilB:∀ (w:World) (a:Option Addr) (n c n' c':Nat),(binOp .eql 73 (.slice a n c) (.slice none n' c')).run Try.prog w = .ok (.bool a.isNone) w:=λ w a n c n' c'=>Lib.run_eql_slice_nil w _ _ a n c n' c' Try.underlying73
def UaddR (base g:Nat) (w:World) (V0:Nat→Value) (u:Us) (e:Ending) (w':World):Prop:=e = .returned (.tuple #[])∧∃ V,UsU base g w w' V0 u V
set_option maxRecDepth 100000 in
set_option maxHeartbeats 8000000 in
theorem uadd_any {base g:Nat} {w:World} {u:Us} {V:Nat→Value} {p:Option Addr} {c:Nat} {l:List Sg} (h:UsM base g w u V) (hw:WU (sizes l) u) (hs:SgsM base w p c l) (a:Atom) (ha:a.s<l.length) (hlo:a.lo≤1000) (haw:a.w≤1000) :
  Calls Try.prog 63 #[usV g l.length,.slice p l.length c,.int .i64 (a.s:Nat),.int .i64 (a.lo:Nat),.int .i64 (a.w:Nat)] w (UaddR base g w V (addP (sizes l) u a)):=by
 obtain ⟨s,lo,wd⟩:=a
 dsimp only at ha hlo haw
 obtain ⟨x,hx⟩:∃ x,l[s]? = some x:=⟨_,List.getElem?_eq_getElem ha⟩
 have hxs:=hs.sz x (List.mem_of_getElem? hx)
 have hszs:(sizes l).getD s 0=x.size:=by unfold sizes;rw [List.getD,List.getElem?_map,hx];rfl
 obtain ⟨L,hL⟩:∃ L,x.size=L:=⟨_,rfl⟩
 obtain ⟨N,hN⟩:∃ N,l.length=N:=⟨_,rfl⟩
 have hul:u.length=N:=by rw [hw.1,sizes,List.length_map,hN]
 have hrow:=hw.2 s
 obtain ⟨l0,hl0⟩:∃ l0,u.getD s []=l0:=⟨_,rfl⟩
 rw [hszs,hL] at hrow
 rw [hl0] at hrow
 have e1:addP (sizes l) u ⟨s,lo,wd⟩=u.set s (orBits L l0 lo wd):=by unfold addP;rw [hszs,hl0,hL]
 rw [e1]
 obtain ⟨sb,so,rfl⟩:=hs.ro.sl (sigCells_at hx).1
 have H:=Lib.hid (And.intro h (And.intro hs (And.intro hx (And.intro hL (And.intro hul (And.intro hrow (And.intro hl0 hxs)))))))
 have hc0:=hs.ro.cell (sigCells_at hx).1
 have hsN:(s:Int)<(N:Int):=by omega
 have hs0:(0:Int)≤(s:Int):=by omega
 have HB:=Lib.hid (show lo≤1000∧wd≤1000∧1≤L∧L≤1000∧s<N from ⟨hlo,haw,by rw [←hL];exact hxs.1,by rw [←hL];exact hxs.2,by omega⟩)
 have g0:=h.row (k:=s) (by omega)
 rw [hN]
 clear h hw hs hx hxs hszs hL hul hrow hl0 e1 hc0 hlo haw ha hN
 obtain ⟨pr,cr,hv⟩:=H.out.1.form s
 rw [H.out.2.2.2.2.2.2.1] at hv
 rw [hv] at g0
 have HV:=Lib.hid hv
 have qT:=eq_nilB
 clear hv
 go_enter Try.func63,Try.ntmps63
 go_upto_if 15 with fail
 go_cut [] from 11 to 25 (λ wx=>∃ V1,UsU base g w wx V (u.set s (rowTo l0 L lo wd 0)) V1)
 case first =>
  by_cases hn:l0 = []
  ·have hv0:=H.out.1.nil s (by rw [H.out.2.2.2.2.2.2.1];exact hn)
   rw [HV.out] at hv0
   simp only [Value.slice.injEq] at hv0
   obtain ⟨rfl,_,_⟩:=hv0
   subst hn
   obtain ⟨xn,xw,xg,xq⟩:=x
   have c0:=H.out.2.1.ro.cell (sigCells_at H.out.2.2.1).1
   have c1:=H.out.2.1.ro.cell (sigCells_at H.out.2.2.1).2.1
   have c2:=H.out.2.1.ro.cell (sigCells_at H.out.2.2.1).2.2.1
   have c3:=H.out.2.1.ro.cell (sigCells_at H.out.2.2.1).2.2.2
   rw [←Nat.add_assoc] at c1 c2 c3
   dsimp only at c0 c1 c2 c3
   have HSz:=Lib.hid (λ w=>psize_any ⟨xn,xw,xg,xq⟩ w)
   go_wp2_with fail
   refine (HSz.out _).mono ?_;rintro e w2 ⟨rfl,hb2⟩
   rw [H.out.2.2.2.1]
   have HU:=Lib.hid ((UsU.start (V:=V) H.out.1).below hb2)
   have hmk:=λ w=>mk_bools L (by have:=HB.out.2.2.2.1;omega) w
   have hg:=(HU.out.us.below (Below.new w2 (.cells (bools (List.replicate L false)).toArray 4))).row (k:=s) (by rw [H.out.2.2.2.2.1];exact HB.out.2.2.2.2)
   have hgf:=(HU.out.us.below (Below.new w2 (.cells (bools (List.replicate L false)).toArray 4))).blk.frz s
   clear hb2 c0 c1 c2 c3 g0
   go_wp2_with fail
   go_meet
   have hz:rowTo [] L lo wd 0=List.replicate L false:=by rw [rowTo_zero _ _ _ _ (.inl rfl),if_pos rfl]
   rw [hz]
   exact ⟨_,HU.out.fresh (by rw [H.out.2.2.2.2.1];exact HB.out.2.2.2.2) H.out.2.2.2.2.2.2.1 HB.out.2.2.1 (by have:=HB.out.2.2.2.1;omega)⟩
  ·have hlen:l0.length=L:=H.out.2.2.2.2.2.1.resolve_left hn
   have hi0:0<(u.getD s []).length:=by rw [H.out.2.2.2.2.2.2.1,hlen];exact HB.out.2.2.1
   obtain ⟨b,c',hv,_⟩:=H.out.1.at hi0
   rw [HV.out] at hv
   simp only [Value.slice.injEq] at hv
   obtain ⟨rfl,_,_⟩:=hv
   have HN:=Lib.hid hn
   have HL:=Lib.hid hlen
   clear hn hlen hi0
   go_wp2_with fail
   go_meet
   refine ⟨V,?_⟩
   rw [rowTo_zero _ _ _ _ (.inr HL.out),if_neg HN.out,←H.out.2.2.2.2.2.2.1,set_self_us _ _ (by rw [H.out.2.2.2.2.1];exact HB.out.2.2.2.2)]
   exact UsU.start H.out.1
 case rest =>
  obtain ⟨V1,hX⟩:=hcut
  have HX:=Lib.hid hX
  clear hX g0
  have HLn:Hid (∀ i,(rowTo l0 L lo wd i).length=L):=Lib.hid λ i=>rowTo_len _ _ _ _ _
  have hlw:IntKind.i64.wrap ((lo:Int)+(wd:Int))=((lo+wd:Nat):Int):=by rw [i64_of (by have:=HB.out;omega)];rfl
  go_wp2_with fail
  go_loopw [10] (λ iv wr=>∃ (i:Nat) (V2:Nat→Value),iv = .int .i64 (i:Nat)∧lo≤i∧(i=lo∨i≤L)∧UsU base g w wr V (u.set s (rowTo l0 L lo wd i)) V2) (λ iv _=>L-(intOf iv).toNat)
  case atStart=>exact ⟨lo,V1,rfl,Nat.le_refl _,.inl rfl,by rw [rowTo_low _ _ _ _ _ (Nat.le_refl _)];exact HX.out⟩
  case round =>
   obtain ⟨i,V2,rfl,hli,hiL,hU⟩:=hrel
   have HU:=Lib.hid hU
   obtain ⟨p2,c2,hv2⟩:=hU.us.form s
   have e2:(u.set s (rowTo l0 L lo wd i)).getD s []=rowTo l0 L lo wd i:=getD_set_same _ _ _ (by rw [H.out.2.2.2.2.1];exact HB.out.2.2.2.2)
   rw [e2,HLn.out] at hv2
   have g0:=hU.us.row (k:=s) (by rw [List.length_set,H.out.2.2.2.2.1];exact HB.out.2.2.2.2)
   rw [hv2] at g0
   have HI:=Lib.hid (And.intro hli (And.intro hiL (And.intro hv2 e2)))
   clear hU hli hiL hv2 e2 HX
   by_cases hlt:i<lo+wd∧i<L
   ·have h1:(i:Int)<((lo+wd:Nat):Int):=by omega
    have h2:(i:Int)<(L:Int):=by omega
    have h0:(0:Int)≤(i:Int):=by omega
    have hm:(i:Int)<min ((lo+wd:Nat):Int) (L:Int):=by omega
    obtain ⟨b,c',hv',hcell,hfrz,_⟩:=HU.out.us.at (k:=s) (i:=i) (by rw [HI.out.2.2.2,HLn.out];exact hlt.2)
    rw [HI.out.2.2.1,HI.out.2.2.2,HLn.out] at hv'
    simp only [Value.slice.injEq] at hv'
    obtain ⟨rfl,_,rfl⟩:=hv'
    have hiw:IntKind.i64.wrap ((i:Int)+1)=((i+1:Nat):Int):=by rw [i64_of (by have:=HB.out;omega)];rfl
    have HLt:=Lib.hid hlt
    clear hlt
    go_wp2_with fail
    go_roundw
    case measure=>simp [intOf];have:=HLt.out;omega
    case rel =>
     refine ⟨i+1,V2,by go_num,by have:=HI.out.1;omega,.inr HLt.out.2,?_⟩
     have hb:=HU.out.bit (k:=s) (i:=i) (b:=b) (c:=c2) (by rw [List.length_set,H.out.2.2.2.2.1];exact HB.out.2.2.2.2) (by rw [HI.out.2.2.2,HLn.out];exact HLt.out.2) (by rw [HI.out.2.2.2,HLn.out];exact HI.out.2.2.1) true
     rw [HI.out.2.2.2,set_set_us] at hb
     rw [rowTo_step _ _ _ _ _ ⟨HI.out.1,HLt.out.1⟩]
     exact hb
   ·have hm:¬(i:Int)<min ((lo+wd:Nat):Int) (L:Int):=by omega
    have HLt:=Lib.hid hlt
    clear hlt
    go_wp2_with fail
    all_goals
     go_end0
     refine ⟨rfl,V2,?_⟩
     rw [←rowTo_high l0 L lo wd i (by have:=HLt.out;omega)]
     exact HU.out
def UxC (base:Nat) (p:Option Addr) (c:Nat) (l:List Sg) (h:TH) (a:TL):Prop :=
 ∀ (g:Nat) (w:World) (u:Us) (V:Nat→Value) (cs:List Value),UsM base g w u V→WU (sizes l) u→SgsM base w p c l→TF (λ k=>k<base) w (.cons h a .nil) cs →
  Calls Try.prog 42 #[usV g l.length,.slice p l.length c,.agg cs.toArray] w (UaddR base g w V (addsP (sizes l) u (atT h a)))
theorem tf_one {A:Nat→Prop} {w:World} {h:TH} {a:TL} {cs:List Value} (ht:TF A w (.cons h a .nil) cs):∃ (op:Int) (sg:Bool) (vw:Int) (pv:Option Addr) (vn vc:Nat) (pa:Option Addr) (ca:Nat) (ac:List Value),cs = [.int .i64 (h.k:Nat),.int .i64 op,.int .i64 (h.w:Nat),.int .i64 (h.s:Nat),.int .i64 (h.lo:Nat),.bool sg,.int .i64 vw,.slice pv vn vc,.slice pa a.len ca]∧ROA A w (.slice pa a.len ca) 9 a.len ac∧TF A w a ac:=by
 obtain ⟨hc,av,ac,cs',e,hl,⟨op,sg,vw,p,n,c,rfl⟩,hr,ha,hrr⟩:=ht
 have:cs' = []:=hrr
 subst this
 obtain ⟨pa,ca,rfl,_⟩:=hr.form
 exact ⟨op,sg,vw,p,n,c,pa,ca,ac,by rw [e,List.append_nil];rfl,hr,ha⟩
theorem tf_at {A:Nat→Prop} {w:World} {h:TH} {a r:TL} {ac:List Value} {i:Nat} (ht:TF A w (.cons h a r) (ac.drop (i*9))) :
  ∃ cs:List Value,cs.length=9∧(∀ j,j<9→ac[i*9+j]? = cs[j]?)∧TF A w (.cons h a .nil) cs∧TF A w r (ac.drop ((i+1)*9)):=by
 obtain ⟨hc,av,bc,cs',e,hl,he,hr,ha,hrr⟩:=ht
 refine ⟨hc,hl,λ j hj => ?_,⟨hc,av,bc, [],(List.append_nil _).symm,hl,he,hr,ha,rfl⟩,?_⟩
 ·rw [←List.getElem?_drop,e,List.getElem?_append_left (by rw [hl];exact hj)]
 ·rw [Nat.add_mul,Nat.one_mul,←List.drop_drop,e,List.drop_append_of_le_length (by rw [hl];exact Nat.le_refl _),List.drop_of_length_le (by rw [hl];exact Nat.le_refl _),List.nil_append]
  exact hrr
theorem addP_size {l:List Sg} (hsz:∀ x∈l,x.size≤1000) (u:Us) {s:Nat} {x:Sg} (hx:l[s]? = some x):addP (sizes l) u ⟨s,0,x.size⟩=addP (sizes l) u ⟨s,0,1000⟩:=by
 have hs:(sizes l).getD s 0=x.size:=by unfold sizes;rw [List.getD,List.getElem?_map,hx];rfl
 have:=hsz x (List.mem_of_getElem? hx)
 unfold addP
 rw [hs]
 dsimp only
 congr 1
 unfold orBits
 refine List.map_congr_left λ j hj => ?_
 have hj':=List.mem_range.1 hj
 rw [decide_eq_true (show j<0+x.size by omega),decide_eq_true (show j<0+1000 by omega)]
theorem UsU.pre {base g:Nat} {w w1 W:World} {V V':Nat→Value} {u:Us} (h:UsU base g w1 W V u V') (hb:Below w.heap.size w w1):UsU base g w W V u V':=⟨h.us,(Upd.below hb).trans h.up⟩
theorem UsU.call {base g:Nat} {w W W':World} {V V1 V2:Nat→Value} {u u':Us} (h:UsU base g w W V u V1) (h':UsU base g W W' V1 u' V2):UsU base g w W' V u' V2:=⟨h'.us,h.up.trans h'.up⟩
theorem sizeEx:(Try.prog.info? 62).map (·.size)=some 9:=by kernel_rfl
set_option maxRecDepth 100000 in
set_option maxHeartbeats 8000000 in
theorem ux_step {base:Nat} {p:Option Addr} {c:Nat} {l:List Sg} {h:TH} {a:TL} (hwf:(TL.cons h a .nil).wf l.length) (ih:AllT (UxC base p c l) a):UxC base p c l h a:=λ g w us V cs hus hwu hs ht=>by
 obtain ⟨op,sg,vw,pv,vn,vc,pa,ca,ac,rfl,hr,ha⟩:=tf_one ht
 obtain ⟨an,han⟩:∃ n,a.len=n:=⟨_,rfl⟩
 obtain ⟨N,hN⟩:∃ n,l.length=n:=⟨_,rfl⟩
 obtain ⟨k,wd,s,lo⟩:=h
 dsimp only
 obtain ⟨R,hR⟩:∃ R,addsP (sizes l) us (atT ⟨k,wd,s,lo⟩ a)=R:=⟨_,rfl⟩
 have H:Hid ((TL.cons ⟨k,wd,s,lo⟩ a .nil).wf l.length∧WU (sizes l) us∧SgsM base w p c l∧AllT (UxC base p c l) a∧a.len=an∧l.length=N∧addsP (sizes l) us (atT ⟨k,wd,s,lo⟩ a)=R):=Lib.hid ⟨hwf,hwu,hs,ih,han,hN,hR⟩
 have HA:Hid (ROA (λ k=>k<base) w (.slice pa an ca) 9 an ac∧TF (λ k=>k<base) w a ac):=Lib.hid ⟨by rw [←han];exact hr,ha⟩
 have HF:=Lib.hid hus.flt
 have hb0:Below w.heap.size w (w.alloc (.cells #[.int .i64 k,.int .i64 op,.int .i64 wd,.int .i64 s,.int .i64 lo,.bool sg,.int .i64 vw,.slice pv vn vc,.slice pa an ca] 62)):=Below.new _ _
 have hbx:Blk (w.alloc (.cells #[.int .i64 k,.int .i64 op,.int .i64 wd,.int .i64 s,.int .i64 lo,.bool sg,.int .i64 vw,.slice pv vn vc,.slice pa an ca] 62)) w.heap.size 62 [.int .i64 k,.int .i64 op,.int .i64 wd,.int .i64 s,.int .i64 lo,.bool sg,.int .i64 vw,.slice pv vn vc,.slice pa an ca]:=Blk.new _ _
 have hu0:=UsU.start (hus.below hb0)
 have HB:=Lib.hid (And.intro hbx (And.intro hb0 (And.intro hu0 hus.size)))
 have HAdd:Hid (∀ (W:World) (u':Us) (V':Nat→Value) (a:Atom),UsM base g W u' V'→WU (sizes l) u'→Below base w W→a.s<N→a.lo≤1000→a.w≤1000→Calls Try.prog 63 #[usV g N,.slice p N c,.int .i64 (a.s:Nat),.int .i64 (a.lo:Nat),.int .i64 (a.w:Nat)] W (UaddR base g W V' (addP (sizes l) u' a))):=Lib.hid λ W u' V' a h1 h2 h3 h4 h5 h6=>by
  have:=uadd_any h1 h2 (hs.low h3) a (by rw [hN];exact h4) h5 h6
  rw [hN] at this
  exact this
 have HLow:Hid (∀ (W:World) (u':Us) (V':Nat→Value),UsU base g (w.alloc (.cells #[.int .i64 k,.int .i64 op,.int .i64 wd,.int .i64 s,.int .i64 lo,.bool sg,.int .i64 vw,.slice pv vn vc,.slice pa an ca] 62)) W V u' V'→Below base w W):=Lib.hid λ W u' V' h1=>(hb0.mono hus.size).trans (h1.up.lowF (λ b hb=>(hus.flt b hb).1) (Nat.le_trans hus.size hb0.size))
 rw [han,hN,hR]
 clear hus hwu hs ht hr ha han hN hR hwf ih hbx hb0 hu0
 go_enter Try.func42,Try.ntmps42
 go_upto_block 0 with fail
 generalize w.alloc (.cells #[.int .i64 k,.int .i64 op,.int .i64 wd,.int .i64 s,.int .i64 lo,.bool sg,.int .i64 vw,.slice pv vn vc,.slice pa an ca] 62)=w1 at *
 have e0:=HB.out.1.cell (i:=0) rfl
 have e7:=HB.out.1.cell (i:=8) rfl
 have hbw:Below base w w1:=HB.out.2.1.mono HB.out.2.2.2
 go_cut [] from 9 to 20 (λ wx=>¬(k=5∧a.hk=2)∧∃ V1,UsU base g w1 wx V (if k=2∨k=3 then addP (sizes l) us ⟨s,0,1000⟩ else us) V1)
 case first =>
  go_upto_region 1 with fail
  go_cut [8] from 9 to 20 (λ v wx=>v = .bool (decide (k=5) && decide (a.hk=2))∧wx=w1)
  case first =>
   by_cases hk:k=5
   ·subst hk
    obtain ⟨a0,b0,r0,rfl⟩:∃ a0 b0 r0,a = .cons a0 b0 r0:=by
     cases a with
     | nil=>exact absurd rfl (H.out.1.1 rfl)
     | cons a0 b0 r0=>exact ⟨a0,b0,r0,rfl⟩
    obtain ⟨cs0,hcl,hat,hone,_⟩:=tf_at (i:=0) (by simpa using HA.out.2)
    obtain ⟨op0,sg0,vw0,pv0,vn0,vc0,pa0,ca0,ac0,rfl,_⟩:=tf_one hone
    have hra:RO w1 (.slice pa an ca) 9 an ac:=((MSt.ro _ _ _ _) _ (λ _=>True) _ w1 (λ b hb _=>⟨trivial,hbw.block b hb⟩) HA.out.1).ro
    obtain ⟨b,o,rfl⟩:=hra.sl (hat 0 (by omega))
    have c0:=hra.cell (hat 0 (by omega))
    obtain ⟨k0,w0,s0,lo0⟩:=a0
    simp only [Nat.zero_mul,Nat.add_zero] at c0
    have han:(0:Int)<(an:Int):=by have:=H.out.2.2.2.2.1;simp only [TL.len] at this;omega
    have HQ:Hid ((TL.cons (⟨k0,w0,s0,lo0⟩:TH) b0 r0).hk=k0):=Lib.hid rfl
    clear hat hone hra hcl
    by_cases hk2:k0=2
    ·subst hk2
     go_wp2_with fail
     go_meet
     exact ⟨by simp [TL.hk],rfl⟩
    ·have hk2i:((k0:Int) == 2)=false:=by simp;omega
     have HK:=Lib.hid hk2
     clear hk2
     go_wp2_with fail
     go_meet
     exact ⟨by simp [TL.hk,HK.out],rfl⟩
   ·have hki:((k:Int) == 5)=false:=by simp;omega
    have HK:=Lib.hid hk
    clear hk
    go_wp2_with fail
    go_meet
    exact ⟨by simp [HK.out],rfl⟩
  case rest =>
   obtain ⟨rfl,hwc⟩:=hcut
   have hwc2:=hwc.symm
   clear hwc
   subst hwc2
   obtain ⟨q,hq⟩:∃ q,(decide (k=5) && decide (a.hk=2))=q:=⟨_,rfl⟩
   rw [hq]
   have HQ:=Lib.hid hq
   clear hq
   cases q
   ·go_upto_region 3 with fail
    go_cut [32] from 33 to 41 (λ v wx=>v = .bool (decide (k=2) || decide (k=3))∧wx=w1)
    case first =>
     by_cases hk2:k=2
     ·subst hk2
      go_wp2_with fail
      go_meet
      exact ⟨by simp,rfl⟩
     ·have hk2i:((k:Int) == 2)=false:=by simp;omega
      by_cases hk3:k=3
      ·subst hk3
       go_wp2_with fail
       go_meet
       exact ⟨by simp,rfl⟩
      ·have hk3i:((k:Int) == 3)=false:=by simp;omega
       have HK:=Lib.hid (And.intro hk2 hk3)
       clear hk2 hk3
       go_wp2_with fail
       go_meet
       exact ⟨by simp [HK.out.1,HK.out.2],rfl⟩
    case rest =>
     obtain ⟨rfl,hwc⟩:=hcut
     have hwc2:=hwc.symm
     clear hwc
     subst hwc2
     by_cases hk:k=2∨k=3
     ·have hkb:(decide (k=2) || decide (k=3))=true:=by simp;exact hk
      rw [hkb]
      have HKq:=Lib.hid hk
      have hsN:s<N:=by have:=H.out.1.2.1 hk;rw [H.out.2.2.2.2.2.1] at this;exact this
      obtain ⟨x,hx⟩:∃ x,l[s]? = some x:=⟨_,List.getElem?_eq_getElem (by rw [H.out.2.2.2.2.2.1];exact hsN)⟩
      have hsl:=(H.out.2.2.1.low hbw)
      obtain ⟨sb,so,rfl⟩:=hsl.ro.sl (sigCells_at hx).1
      have c0:=hsl.ro.cell (sigCells_at hx).1
      have c1:=hsl.ro.cell (sigCells_at hx).2.1
      have c2:=hsl.ro.cell (sigCells_at hx).2.2.1
      have c3:=hsl.ro.cell (sigCells_at hx).2.2.2
      rw [←Nat.add_assoc] at c1 c2 c3
      skip
      have HX:=Lib.hid (And.intro hx (And.intro (addP_size (λ x hx=>(H.out.2.2.1.sz x hx).2) us hx) (H.out.2.2.1.sz x (List.mem_of_getElem? hx)).2))
      have HSz:=Lib.hid (λ W=>psize_any x W)
      have hs0:(0:Int)≤(s:Int):=by omega
      have hsi:(s:Int)<(N:Int):=by omega
      have HsN:=Lib.hid hsN
      have e3:=HB.out.1.cell (i:=3) rfl
      clear hk hkb hsl hx hsN
      obtain ⟨xn,xw,xg,xq⟩:=x
      dsimp only at c0 c1 c2 c3
      go_upto_region 4 with fail
      have HTr:=Lib.hid (Tr.nil w1)
      refine wp_region_webCR (w0:=w1) [.known (usV g N),.known (.slice (some ⟨sb,so,none⟩) N c),.known (.pointer (some ⟨w.heap.size,3,none⟩)),.known (.int .i64 s),.known (.slice (some ⟨sb,so,none⟩) N c),.known (.pointer (some ⟨w.heap.size,3,none⟩)),.known (.int .i64 s),.known (.pointer (some ⟨sb,so+s*4,none⟩)),.known (.agg #[.string xn,.int .i64 xw,.bool xg,.int .i64 xq]),.known (.int .i64 ((⟨xn,xw,xg,xq⟩:Sg).size:Nat))] [1,1,1,1,1,1,1,1,1,1] [] 51 1 #[true,true,true,true,true,true,true,true,true,true,false] (by kernel_rfl) (by kernel_rfl) rfl rfl rfl (Nat.le_of_ble_eq_true rfl) ⟨Sp.Mono.known,Sp.Mono.known,Sp.Mono.known,Sp.Mono.known,Sp.Mono.known,Sp.Mono.known,Sp.Mono.known,Sp.Mono.known,Sp.Mono.known,Sp.Mono.known,trivial⟩ HTr.out.drew (λ _ _ _ _ _ h=>h) (A := ?_) ?_ ?_ ?_
      rotate_left
      ·intro u
       simp only [fillC,Sp.val,Nat.reduceBEq,cond_false,Act.put,List.setIfInBounds_toArray,List.set_cons_zero,List.set_cons_succ]
       rfl
      iterate 9 (refine ob_yes (web_op (o:=_) rfl (λ u W hT hd Q K hK => ?_)) ?_;· (have cc0:=aft c0 hT.bel;have cc1:=aft c1 hT.bel;have cc2:=aft c2 hT.bel;have cc3:=aft c3 hT.bel;have cc4:=aft e3 hT.bel;go_simp;exact hK.out _ _ (Below.refl _ _) rfl (λ p hp=>by cases hp) List.nodup_nil))
      refine ob_yes (web_op (o:=_) rfl (λ u W hT hd Q K hK => ?_)) ?_
      ·(try simp only [Act.put,List.setIfInBounds_toArray,List.set_cons_zero,List.set_cons_succ] at hK)
       have cc0:=aft c0 hT.bel
       have cc1:=aft c1 hT.bel
       have cc2:=aft c2 hT.bel
       have cc3:=aft c3 hT.bel
       have cc4:=aft e3 hT.bel
       go_simp
       refine (HSz.out W).mono ?_;rintro e w6 ⟨rfl,hb6⟩
       exact hK.out _ _ hb6 rfl (λ p hp=>by cases hp) List.nodup_nil
      exact ob_nil
      intro u wx hT hok
      obtain ⟨h0,h1,h2,h3,h4,h5,h6,h7,h8,h9,_⟩:=hok
      clear h0 h1 h2 h3 h4 h5 h6 h7 h8 h9
      simp only [ownsC,Sp.own,Nat.reduceBEq,cond_false,List.append_nil] at hT
      (try dsimp only [List.nil_append,List.cons_append] at hT)
      have HTE:=Lib.hid hT
      clear hT
      clear HTr c0 c1 c2 c3 e3
      refine wpAny_of_held (S:=λ _=>True) _ _ _ _ ?_
      have HU:=Lib.hid (HB.out.2.2.1.below HTE.out.bel)
      refine wpAnyH_ready (rs := [10]) (by kernel_rfl) (by simp) ?_
      refine held_cons rfl (λ K hK => ?_) AllReadyH.nil
      go_simp
      refine (HAdd.out wx us V ⟨s,0,(⟨xn,xw,xg,xq⟩:Sg).size⟩ HU.out.us H.out.2.1 (HLow.out _ _ _ HU.out) HsN.out (Nat.zero_le _) HX.out.2.2).mono ?_;rintro e w6 ⟨rfl,V6,h6⟩
      have H6:=Lib.hid (HU.out.call h6);clear h6
      (try go_simp)
      refine hK.out _ _ trivial (λ _ => ?_)
      clear hK K
      (try simp only [List.setIfInBounds_toArray,List.set_cons_zero,List.set_cons_succ])
      refine wpAnyH_done (by kernel_rfl) ?_ _
      go_wp2_with fail
      go_meet
      exact ⟨by have:=HQ.out;simpa using this,V6,by rw [if_pos HKq.out,←HX.out.2.1];exact H6.out⟩
     ·have hkb:(decide (k=2) || decide (k=3))=false:=by rw [Bool.eq_false_iff];intro e;simp at e;exact hk e
      rw [hkb]
      have HKq:=Lib.hid hk
      clear hk hkb
      go_wp2_with fail
      go_meet
      exact ⟨by have:=HQ.out;simpa using this,V,by rw [if_neg HKq.out];exact HB.out.2.2.1⟩
   ·have hk:k=5∧a.hk=2:=by have:=HQ.out;simp at this;exact this
    obtain ⟨rfl,hk2⟩:=hk
    obtain ⟨a0,b0,r0,rfl⟩:∃ a0 b0 r0,a = .cons a0 b0 r0:=by
     cases a with
     | nil=>simp [TL.hk] at hk2
     | cons a0 b0 r0=>exact ⟨a0,b0,r0,rfl⟩
    obtain ⟨cs0,hcl,hat,hone,_⟩:=tf_at (i:=0) (by simpa using HA.out.2)
    obtain ⟨op1,sg1,vw1,pv1,vn1,vc1,pa1,ca1,ac1,rfl,_⟩:=tf_one hone
    have hra:RO w1 (.slice pa an ca) 9 an ac:=((MSt.ro _ _ _ _) _ (λ _=>True) _ w1 (λ b hb _=>⟨trivial,hbw.block b hb⟩) HA.out.1).ro
    obtain ⟨b,o,rfl⟩:=hra.sl (hat 0 (by omega))
    have c3:=hra.cell (hat 3 (by omega))
    obtain ⟨k1,ww1,s1,lo1⟩:=a0
    simp only [Nat.zero_mul,Nat.zero_add] at c3
    have hk1:k1=2:=hk2
    have hsN:s1<N:=by have:=H.out.1.2.2.2.2.2.2.2.1.2.1 (.inl hk1);rw [H.out.2.2.2.2.2.1] at this;exact this
    have hb1:lo≤1000∧wd≤1000:=⟨H.out.1.2.2.2.2.2.1,H.out.1.2.2.2.1⟩
    have hn0:(0:Int)<(an:Int):=by have:=H.out.2.2.2.2.1;simp only [TL.len] at this;omega
    have HS:=Lib.hid (And.intro hsN (And.intro hk1 hb1))
    have hz1:((0:Int)<(an:Int))=True:=eq_true hn0
    have hz2:(0<an)=True:=eq_true (by omega)
    have e2:=HB.out.1.cell (i:=2) rfl
    have e4:=HB.out.1.cell (i:=4) rfl
    clear hat hk2 hk1 hsN hb1 e0 hone hcl hra
    go_upto_region 2 with fail
    refine wp_region_still_tail 11 (by kernel_rfl) (by kernel_rfl) ?_
    simp only [List.take_succ_cons,List.take_zero,List.drop_succ_cons,List.drop_zero]
    change wpStill _ _ w1.drew (λ a'=>wpList _ _ _ _ a' w1.drew) _ _
    have HX5:=Lib.hid (HB.out.2.2.1.below (Below.refl _ _).drew)
    replace c3:w1.drew.cell? _=_:=c3
    replace e2:w1.drew.cell? _=_:=e2
    replace e4:w1.drew.cell? _=_:=e4
    replace e7:w1.drew.cell? _=_:=e7
    obtain ⟨w5,hw5⟩:∃ w5,w1.drew=w5:=⟨_,rfl⟩
    rw [hw5] at c3 e2 e4 e7 HX5 ⊢
    clear hw5
    repeat still_step
    try refine wpStill_nil ?_
    clear c3 e2 e4 e7
    go_wp2_with fail
    refine (HAdd.out w5 us V ⟨s1,lo,wd⟩ HX5.out.us H.out.2.1 (HLow.out _ _ _ HX5.out) HS.out.1 HS.out.2.2.1 HS.out.2.2.2).mono ?_;rintro e w6 ⟨rfl,V6,h6⟩
    have H6:=Lib.hid (HX5.out.call h6);clear h6
    go_wp2_with fail
    go_end0
    refine ⟨rfl,V6,?_⟩
    rw [←H.out.2.2.2.2.2.2]
    have hat:atT ⟨5,wd,s,lo⟩ (.cons ⟨k1,ww1,s1,lo1⟩ b0 r0) = [⟨s1,lo,wd⟩]:=by unfold atT atH;rw [if_pos ⟨rfl,HS.out.2.1⟩];rfl
    rw [hat]
    exact H6.out.pre HB.out.2.1
 case rest =>
  obtain ⟨hnk,V1,hX⟩:=hcut
  obtain ⟨U1,hU1⟩:∃ U1,(if k=2∨k=3 then addP (sizes l) us ⟨s,0,1000⟩ else us)=U1:=⟨_,rfl⟩
  have hRl:addsP (sizes l) U1 (atL a)=R:=by
   rw [←H.out.2.2.2.2.2.2,←hU1]
   unfold atT atH
   rw [if_neg hnk,addsP_app]
   split <;> rfl
  have hwu1:WU (sizes l) U1:=by
   rw [←hU1]
   split
   ·exact H.out.2.1.add _
   ·exact H.out.2.1
  rw [hU1] at hX
  have HX1:=Lib.hid (And.intro hX (And.intro hRl hwu1))
  clear hX hRl hwu1 hU1 hnk e0 e7
  have hbox:∀ (W:World) (u':Us) (V':Nat→Value),UsU base g w1 W V u' V'→Blk W w.heap.size 62 [.int .i64 k,.int .i64 op,.int .i64 wd,.int .i64 s,.int .i64 lo,.bool sg,.int .i64 vw,.slice pv vn vc,.slice pa an ca]:=λ W u' V' h=>h.up.blk HB.out.1 (λ e=>by have:=(HF.out _ e).2;omega)
  have HBx:=Lib.hid hbox
  clear hbox
  have e8:=(HBx.out _ _ _ HX1.out.1).cell (i:=8) rfl
  go_wp2_with fail
  go_loopw [55] (λ iv wr=>∃ (i:Nat) (r:TL) (u':Us) (V':Nat→Value),iv = .int .i64 (i:Nat)∧i+r.len=an∧TF (λ k=>k<base) w r (ac.drop (i*9))∧AllT (UxC base p c l) r∧WU (sizes l) u'∧UsU base g w1 wr V u' V'∧addsP (sizes l) u' (atL r)=R) (λ iv _=>an-(intOf iv).toNat)
  case atStart=>exact ⟨0,a,U1,V1,rfl,by rw [Nat.zero_add];exact H.out.2.2.2.2.1,by simpa using HA.out.2,H.out.2.2.2.1,HX1.out.2.2,HX1.out.1,HX1.out.2.1⟩
  case round =>
   obtain ⟨i,r,u',V',rfl,hil,hTr,hAl,hWu,hU,hRr⟩:=hrel
   have HU:=Lib.hid (And.intro hU (And.intro hWu hRr))
   clear hU hWu hRr e8
   by_cases hlt:i<an
   ·obtain ⟨h0,b0,r0,rfl⟩:∃ h0 b0 r0,r = .cons h0 b0 r0:=by
     cases r with
     | nil=>simp only [TL.len] at hil;omega
     | cons h0 b0 r0=>exact ⟨h0,b0,r0,rfl⟩
    obtain ⟨cs0,hcl,hat,hone,hrest⟩:=tf_at hTr
    obtain ⟨op0,sg0,vw0,pv0,vn0,vc0,pa0,ca0,ac0,rfl,_⟩:=tf_one hone
    have hbr:=HLow.out _ _ _ HU.out.1
    have hra:RO wr (.slice pa an ca) 9 an ac:=((MSt.ro _ _ _ _) _ (λ _=>True) _ wr (λ b hb _=>⟨trivial,hbr.block b hb⟩) HA.out.1).ro
    obtain ⟨ab,ao,rfl⟩:=hra.sl (hat 0 (by omega))
    obtain ⟨k0,w0,s0,lo0⟩:=h0
    obtain ⟨an0,han0⟩:∃ n,b0.len=n:=⟨_,rfl⟩
    rw [han0] at hone hat
    dsimp only at hone hat
    have hrg:wr.rangeAt ab (ao+i*9) [.int .i64 k0,.int .i64 op0,.int .i64 w0,.int .i64 s0,.int .i64 lo0,.bool sg0,.int .i64 vw0,.slice pv0 vn0 vc0,.slice pa0 an0 ca0]:=λ j v hj=>by
     have hj9:j<9:=by have:=(List.getElem?_eq_some_iff.1 hj).1;simpa using this
     have:=hra.cell ((hat j hj9).trans hj)
     rwa [←Nat.add_assoc] at this
    have hii:(i:Int)<(an:Int):=by omega
    have hi0:(0:Int)≤(i:Int):=by omega
    have hiw:IntKind.i64.wrap ((i:Int)+1)=((i+1:Nat):Int):=by rw [i64_of (by have:=H.out.1.2.2.2.2.2.2.1;have:=H.out.2.2.2.2.1;omega)];rfl
    have HE:=Lib.hid (And.intro hAl (And.intro hone (And.intro hrest (And.intro hlt hil))))
    clear hat hone hrest hra hTr hAl hlt hil hcl hbr han0
    go_wp2_with (refine wpList_load_mid rfl 62 _ rfl (ab) (ao+i*9) rfl [.int .i64 k0,.int .i64 op0,.int .i64 w0,.int .i64 s0,.int .i64 lo0,.bool sg0,.int .i64 vw0,.slice pv0 vn0 vc0,.slice pa0 an0 ca0] _ hrg Try.underlying62 rfl sizeEx ?_)
    have HU5:=Lib.hid (HU.out.1.below (Below.new wr (.cells #[.int .i64 k0,.int .i64 op0,.int .i64 w0,.int .i64 s0,.int .i64 lo0,.bool sg0,.int .i64 vw0,.slice pv0 vn0 vc0,.slice pa0 an0 ca0] 62)))
    have hrec:=HE.out.1.1 g _ u' V' [.int .i64 k0,.int .i64 op0,.int .i64 w0,.int .i64 s0,.int .i64 lo0,.bool sg0,.int .i64 vw0,.slice pv0 vn0 vc0,.slice pa0 an0 ca0] HU5.out.us HU.out.2.1 (H.out.2.2.1.low (HLow.out _ _ _ HU5.out)) (HE.out.2.1.turn EF.stay λ b hb _=>⟨hb,(HLow.out _ _ _ HU5.out).block b hb⟩)
    rw [H.out.2.2.2.2.2.1] at hrec
    refine hrec.mono ?_;rintro e w6 ⟨rfl,V6,h6⟩
    have H6:=Lib.hid (HU5.out.call h6)
    clear h6 hrec hrg
    go_wp2_with fail
    go_roundw
    case measure=>simp [intOf];have:=HE.out.2.2.2.1;omega
    case rel =>
     refine ⟨i+1,r0,addsP (sizes l) u' (atT ⟨k0,w0,s0,lo0⟩ b0),V6,by go_num,by have:=HE.out.2.2.2.2;simp only [TL.len] at this;omega,HE.out.2.2.1,HE.out.1.2,HU.out.2.1.adds _,H6.out,?_⟩
     rw [←addsP_app]
     exact HU.out.2.2
   ·obtain rfl:r = .nil:=by
     cases r with
     | nil=>rfl
     | cons h0 b0 r0=>simp only [TL.len] at hil;omega
    have hii:¬(i:Int)<(an:Int):=by simp only [TL.len] at hil;omega
    clear hil hTr hAl hlt
    go_wp2_with fail
    go_end0
    refine ⟨rfl,V',?_⟩
    have hR2:u'=R:=HU.out.2.2
    rw [←hR2]
    exact HU.out.1.pre HB.out.2.1
theorem ux_all {base:Nat} {p:Option Addr} {c:Nat} {l:List Sg}:∀ {t:TL},t.wf l.length→AllT (UxC base p c l) t
 | .nil,_=>trivial
 | .cons h a r,hw=>⟨ux_step ⟨hw.1,hw.2.1,hw.2.2.1,hw.2.2.2.1,hw.2.2.2.2.1,hw.2.2.2.2.2.1,hw.2.2.2.2.2.2.1,hw.2.2.2.2.2.2.2.1,trivial⟩ (ux_all hw.2.2.2.2.2.2.2.1),ux_all hw.2.2.2.2.2.2.2.2⟩
set_option maxRecDepth 100000 in
set_option maxHeartbeats 8000000 in
theorem usets_any {base g:Nat} {w:World} {us:Us} {V:Nat→Value} {p:Option Addr} {c:Nat} {l:List Sg} (hus:UsM base g w us V) (hwu:WU (sizes l) us) (hs:SgsM base w p c l) (s lo wd n:Nat) (pi:Option Addr) (ci:Nat) (hsl:s<l.length) (hlo:lo≤1000) (hwd:wd≤1000) :
  Calls Try.prog 45 #[usV g l.length,.slice p l.length c,.agg #[.int .i64 s,.int .i64 lo,.int .i64 wd,.slice pi n ci]] w (UaddR base g w V (addP (sizes l) us (if n=0 then ⟨s,lo,wd⟩ else ⟨s,0,1000⟩))):=by
 obtain ⟨N,hN⟩:∃ n,l.length=n:=⟨_,rfl⟩
 have HAdd:Hid (∀ (W:World) (u':Us) (V':Nat→Value) (a:Atom),UsM base g W u' V'→WU (sizes l) u'→Below base w W→a.s<N→a.lo≤1000→a.w≤1000→Calls Try.prog 63 #[usV g N,.slice p N c,.int .i64 (a.s:Nat),.int .i64 (a.lo:Nat),.int .i64 (a.w:Nat)] W (UaddR base g W V' (addP (sizes l) u' a))):=Lib.hid λ W u' V' a h1 h2 h3 h4 h5 h6=>by
  have:=uadd_any h1 h2 (hs.low h3) a (by rw [hN];exact h4) h5 h6
  rw [hN] at this
  exact this
 have hb0:Below w.heap.size w (w.alloc (.cells #[.int .i64 s,.int .i64 lo,.int .i64 wd,.slice pi n ci] 57)):=Below.new _ _
 have hbx:Blk (w.alloc (.cells #[.int .i64 s,.int .i64 lo,.int .i64 wd,.slice pi n ci] 57)) w.heap.size 57 [.int .i64 s,.int .i64 lo,.int .i64 wd,.slice pi n ci]:=Blk.new _ _
 have HB:=Lib.hid (And.intro hbx (And.intro hb0 (And.intro (UsU.start (hus.below hb0)) (hb0.mono hus.size))))
 have H:=Lib.hid (And.intro hwu (And.intro hs (And.intro hN (And.intro (show s<N by omega) (And.intro hlo hwd)))))
 have HLow:Hid (∀ (W:World) (u':Us) (V':Nat→Value),UsU base g (w.alloc (.cells #[.int .i64 s,.int .i64 lo,.int .i64 wd,.slice pi n ci] 57)) W V u' V'→Below base w W):=Lib.hid λ W u' V' h1=>(hb0.mono hus.size).trans (h1.up.lowF (λ b hb=>(hus.flt b hb).1) (Nat.le_trans hus.size hb0.size))
 obtain ⟨x,hx⟩:∃ x,l[s]? = some x:=⟨_,List.getElem?_eq_getElem hsl⟩
 have hsl2:=(hs.low (hb0.mono hus.size))
 obtain ⟨sb,so,rfl⟩:=hsl2.ro.sl (sigCells_at hx).1
 have c0:=hsl2.ro.cell (sigCells_at hx).1
 have c1:=hsl2.ro.cell (sigCells_at hx).2.1
 have c2:=hsl2.ro.cell (sigCells_at hx).2.2.1
 have c3:=hsl2.ro.cell (sigCells_at hx).2.2.2
 rw [←Nat.add_assoc] at c1 c2 c3
 have HX:=Lib.hid (And.intro hx (And.intro (addP_size (λ x hx=>(hs.sz x hx).2) us hx) (hs.sz x (List.mem_of_getElem? hx)).2))
 have HSz:=Lib.hid (λ W=>psize_any x W)
 have hs0:(0:Int)≤(s:Int):=by omega
 have hsi:(s:Int)<(N:Int):=by omega
 obtain ⟨xn,xw,xg,xq⟩:=x
 dsimp only at c0 c1 c2 c3
 rw [hN]
 clear hus hwu hs hsl hlo hwd hb0 hbx hN hx hsl2
 go_enter Try.func45,Try.ntmps45
 go_upto_region 1 with fail
 generalize w.alloc (.cells #[.int .i64 s,.int .i64 lo,.int .i64 wd,.slice pi n ci] 57)=w1 at *
 have e3:=HB.out.1.cell (i:=3) rfl
 by_cases hn:n=0
 ·subst hn
  have e0:=HB.out.1.cell (i:=0) rfl
  have e1:=HB.out.1.cell (i:=1) rfl
  have e2:=HB.out.1.cell (i:=2) rfl
  clear c0 c1 c2 c3
  go_wp2_with fail
  refine (HAdd.out w1 us V ⟨s,lo,wd⟩ HB.out.2.2.1.us H.out.1 HB.out.2.2.2 H.out.2.2.2.1 H.out.2.2.2.2.1 H.out.2.2.2.2.2).mono ?_;rintro e w6 ⟨rfl,V6,h6⟩
  have H6:=Lib.hid (HB.out.2.2.1.call h6);clear h6
  go_wp2_with fail
  go_end0
  exact ⟨rfl,V6,H6.out.pre HB.out.2.1⟩
 ·have hni:(0:Int)<(n:Int):=by omega
  have HN:=Lib.hid hn
  clear hn
  have e0:=HB.out.1.cell (i:=0) rfl
  go_upto_region 2 with fail
  clear hni
  generalize decide (0<n)=dz
  have HTr:=Lib.hid (Tr.nil w1)
  refine wp_region_webCR (w0:=w1) [.known (usV g N),.known (.slice (some ⟨sb,so,none⟩) N c),.known (.pointer (some ⟨w.heap.size,0,none⟩)),.known (.int .i64 s),.known (.slice (some ⟨sb,so,none⟩) N c),.known (.pointer (some ⟨w.heap.size,0,none⟩)),.known (.int .i64 s),.known (.pointer (some ⟨sb,so+s*4,none⟩)),.known (.agg #[.string xn,.int .i64 xw,.bool xg,.int .i64 xq]),.known (.int .i64 ((⟨xn,xw,xg,xq⟩:Sg).size:Nat))] [1,1,1,1,1,1,1,1,1,1] [] 20 1 #[true,true,true,true,true,true,true,true,true,true,false] (by kernel_rfl) (by kernel_rfl) rfl rfl rfl (Nat.le_of_ble_eq_true rfl) ⟨Sp.Mono.known,Sp.Mono.known,Sp.Mono.known,Sp.Mono.known,Sp.Mono.known,Sp.Mono.known,Sp.Mono.known,Sp.Mono.known,Sp.Mono.known,Sp.Mono.known,trivial⟩ HTr.out.drew (λ _ _ _ _ _ h=>h) (A := ?_) ?_ ?_ ?_
  rotate_left
  ·intro u
   simp only [fillC,Sp.val,Nat.reduceBEq,cond_false,Act.put,List.setIfInBounds_toArray,List.set_cons_zero,List.set_cons_succ]
   rfl
  iterate 9 (refine ob_yes (web_op (o:=_) rfl (λ u W hT hd Q K hK => ?_)) ?_;· (have cc0:=aft c0 hT.bel;have cc1:=aft c1 hT.bel;have cc2:=aft c2 hT.bel;have cc3:=aft c3 hT.bel;have cc4:=aft e0 hT.bel;go_simp;exact hK.out _ _ (Below.refl _ _) rfl (λ p hp=>by cases hp) List.nodup_nil))
  refine ob_yes (web_op (o:=_) rfl (λ u W hT hd Q K hK => ?_)) ?_
  ·(try simp only [Act.put,List.setIfInBounds_toArray,List.set_cons_zero,List.set_cons_succ] at hK)
   have cc0:=aft c0 hT.bel
   have cc1:=aft c1 hT.bel
   have cc2:=aft c2 hT.bel
   have cc3:=aft c3 hT.bel
   have cc4:=aft e0 hT.bel
   go_simp
   refine (HSz.out W).mono ?_;rintro e w6 ⟨rfl,hb6⟩
   exact hK.out _ _ hb6 rfl (λ p hp=>by cases hp) List.nodup_nil
  exact ob_nil
  intro u wx hT hok
  obtain ⟨h0,h1,h2,h3,h4,h5,h6,h7,h8,h9,_⟩:=hok
  clear h0 h1 h2 h3 h4 h5 h6 h7 h8 h9
  simp only [ownsC,Sp.own,Nat.reduceBEq,cond_false,List.append_nil] at hT
  (try dsimp only [List.nil_append,List.cons_append] at hT)
  have HTE:=Lib.hid hT
  clear hT
  clear HTr c0 c1 c2 c3 e0 e3
  refine wpAny_of_held (S:=λ _=>True) _ _ _ _ ?_
  have HU:=Lib.hid (HB.out.2.2.1.below HTE.out.bel)
  refine wpAnyH_ready (rs := [10]) (by kernel_rfl) (by simp) ?_
  refine held_cons rfl (λ K hK => ?_) AllReadyH.nil
  go_simp
  refine (HAdd.out wx us V ⟨s,0,(⟨xn,xw,xg,xq⟩:Sg).size⟩ HU.out.us H.out.1 (HLow.out _ _ _ HU.out) H.out.2.2.2.1 (Nat.zero_le _) HX.out.2.2).mono ?_;rintro e w6 ⟨rfl,V6,h6⟩
  have H6:=Lib.hid (HU.out.call h6);clear h6
  (try go_simp)
  refine hK.out _ _ trivial (λ _ => ?_)
  clear hK K
  (try simp only [List.setIfInBounds_toArray,List.set_cons_zero,List.set_cons_succ])
  refine wpAnyH_done (by kernel_rfl) ?_ _
  go_wp2_with fail
  go_end0
  exact ⟨rfl,V6,by rw [←HX.out.2.1];exact H6.out.pre HB.out.2.1⟩
theorem clocked_any {w:World} (kd q1 q2 q3:Nat) (bv:Value) (hb:∃ p n c,bv = .slice p n c):Calls Try.prog 48 #[.agg #[.int .i64 kd,.int .i64 q1,.int .i64 q2,.int .i64 q3,bv]] w λ e w'=>e = .returned (.bool (decide (kd=3)))∧Below w.heap.size w w':=by
 obtain ⟨p,n,c,rfl⟩:=hb
 have hb1:=Lib.hid (Below.new w (.cells #[.int .i64 kd,.int .i64 q1,.int .i64 q2,.int .i64 q3,.slice p n c] 49))
 go_enter Try.func48,Try.ntmps48
 go_wp2_with fail
 go_ret
 refine ⟨congrArg (λ b=>Ending.returned (Value.bool b)) ?_,hb1.out⟩
 rw [Bool.eq_iff_iff]
 simp
 omega
def IdxR (w:World) (q:Bool) (e:Ending) (w':World):Prop:=∃ r:Int,e = .returned (.int .i64 r)∧decide (0≤r)=q∧w'=w
theorem idxI_any {w:World} {p:Option Addr} {n c:Nat} {il:List Int} (h:RO w (.slice p n c) 1 n (ints il)) (hn:n≤1000000) (v:Int):Calls Try.prog 65 #[.slice p n c,.int .i64 v] w (IdxR w (il.contains v)):=by
 have hl:il.length=n:=by have:=h.1;simpa [ints] using this
 have H:=Lib.hid (And.intro h (And.intro hl hn))
 clear h hl hn
 go_enter Try.func65,Try.ntmps65
 go_wp2_with fail
 go_loopw [8] (λ iv wr=>∃ i:Nat,iv = .int .i64 (i:Nat)∧i≤n∧(∀ j,j<i→il[j]? ≠ some v)∧wr=w) (λ iv _=>n-(intOf iv).toNat)
 case atStart=>exact ⟨0,rfl,Nat.zero_le _,λ j hj=>absurd hj (Nat.not_lt_zero _),rfl⟩
 case round =>
  obtain ⟨i,rfl,hin,hno,rfl⟩:=hrel
  have HNo:=Lib.hid hno
  clear hno
  by_cases hlt:i<n
  ·have hii:(i:Int)<(n:Int):=by omega
   have hi0:(0:Int)≤(i:Int):=by omega
   have hx:il[i]? = some (il.getD i 0):=by rw [List.getD,List.getElem?_eq_getElem (by rw [H.out.2.1];exact hlt)];rfl
   have hxi:(ints il)[i]? = some (.int .i64 (il.getD i 0)):=by unfold ints;rw [List.getElem?_map,hx];rfl
   obtain ⟨b,o,rfl⟩:=H.out.1.sl hxi
   have c0:=H.out.1.cell hxi
   have hiw:IntKind.i64.wrap ((i:Int)+1)=((i+1:Nat):Int):=by rw [i64_of (by have:=H.out.2.2;omega)];rfl
   have HX:=Lib.hid hx
   generalize il.getD i 0=y at *
   have HLt:=Lib.hid hlt
   clear hx hxi hlt hin
   by_cases hy:v=y
   ·subst hy
    go_wp2_with fail
    go_ret
    refine ⟨i,rfl,?_,rfl⟩
    have hm:v∈il:=List.mem_of_getElem? HX.out
    rw [decide_eq_true hi0]
    exact (List.contains_iff_mem.2 hm).symm
   ·have hyb:(v == y)=false:=by simpa using hy
    have HY:=Lib.hid hy
    clear hy
    go_wp2_with fail
    go_roundw
    case measure=>simp [intOf];have:=HLt.out;omega
    case rel =>
     refine ⟨i+1,by go_num,HLt.out,λ j hj => ?_,by first | rfl | trivial⟩
     by_cases hji:j=i
     ·subst hji
      rw [HX.out]
      exact λ e=>HY.out (Option.some.inj e).symm
     ·exact HNo.out j (by omega)
  ·obtain rfl:n=i:=by omega
   have hii:¬(n:Int)<(n:Int):=by omega
   clear hlt hin
   go_wp2_with fail
   go_ret
   refine ⟨-1,rfl,?_,rfl⟩
   rw [decide_eq_false (by omega)]
   refine Eq.symm (Bool.eq_false_iff.2 λ e => ?_)
   obtain ⟨j,hj⟩:=List.mem_iff_getElem?.1 (show v∈il by simpa using e)
   have hjn:=(List.getElem?_eq_some_iff.1 hj).1
   exact HNo.out j (by have:=H.out.2.1;omega) hj
theorem hasI_any {w:World} {p:Option Addr} {n c:Nat} {il:List Int} (h:RO w (.slice p n c) 1 n (ints il)) (hn:n≤1000000) (v:Int):Calls Try.prog 44 #[.slice p n c,.int .i64 v] w λ e w'=>e = .returned (.bool (il.contains v))∧w'=w:=by
 have HI:=Lib.hid (idxI_any h hn v)
 clear h hn
 go_enter Try.func44,Try.ntmps44
 go_wp2_with fail
 refine HI.out.mono ?_;rintro e w2 ⟨r,rfl,hr,rfl⟩
 have HR:=Lib.hid hr
 clear hr
 go_wp2_with fail
 go_ret
 refine ⟨congrArg (λ b=>Ending.returned (Value.bool b)) ?_,rfl⟩
 rw [←HR.out]
theorem idxB_any {w:World} {p:Option Addr} {n c:Nat} {il:List Bool} (h:RO w (.slice p n c) 1 n (bools il)) (hn:n≤1000000) (v:Bool):Calls Try.prog 66 #[.slice p n c,.bool v] w (IdxR w (il.contains v)):=by
 have hl:il.length=n:=by have:=h.1;simpa [bools] using this
 have H:=Lib.hid (And.intro h (And.intro hl hn))
 clear h hl hn
 go_enter Try.func66,Try.ntmps66
 go_wp2_with fail
 go_loopw [8] (λ iv wr=>∃ i:Nat,iv = .int .i64 (i:Nat)∧i≤n∧(∀ j,j<i→il[j]? ≠ some v)∧wr=w) (λ iv _=>n-(intOf iv).toNat)
 case atStart=>exact ⟨0,rfl,Nat.zero_le _,λ j hj=>absurd hj (Nat.not_lt_zero _),rfl⟩
 case round =>
  obtain ⟨i,rfl,hin,hno,rfl⟩:=hrel
  have HNo:=Lib.hid hno
  clear hno
  by_cases hlt:i<n
  ·have hii:(i:Int)<(n:Int):=by omega
   have hi0:(0:Int)≤(i:Int):=by omega
   have hx:il[i]? = some (il.getD i false):=by rw [List.getD,List.getElem?_eq_getElem (by rw [H.out.2.1];exact hlt)];rfl
   have hxi:(bools il)[i]? = some (.bool (il.getD i false)):=by unfold bools;rw [List.getElem?_map,hx];rfl
   obtain ⟨b,o,rfl⟩:=H.out.1.sl hxi
   have c0:=H.out.1.cell hxi
   have hiw:IntKind.i64.wrap ((i:Int)+1)=((i+1:Nat):Int):=by rw [i64_of (by have:=H.out.2.2;omega)];rfl
   have HX:=Lib.hid hx
   generalize il.getD i false=y at *
   have HLt:=Lib.hid hlt
   clear hx hxi hlt hin
   by_cases hy:v=y
   ·subst hy
    go_wp2_with fail
    go_ret
    refine ⟨i,rfl,?_,rfl⟩
    have hm:v∈il:=List.mem_of_getElem? HX.out
    rw [decide_eq_true hi0]
    exact (List.contains_iff_mem.2 hm).symm
   ·have hyb:(v == y)=false:=by simpa using hy
    have HY:=Lib.hid hy
    clear hy
    go_wp2_with fail
    go_roundw
    case measure=>simp [intOf];have:=HLt.out;omega
    case rel =>
     refine ⟨i+1,by go_num,HLt.out,λ j hj => ?_,by first | rfl | trivial⟩
     by_cases hji:j=i
     ·subst hji
      rw [HX.out]
      exact λ e=>HY.out (Option.some.inj e).symm
     ·exact HNo.out j (by omega)
  ·obtain rfl:n=i:=by omega
   have hii:¬(n:Int)<(n:Int):=by omega
   clear hlt hin
   go_wp2_with fail
   go_ret
   refine ⟨-1,rfl,?_,rfl⟩
   rw [decide_eq_false (by omega)]
   refine Eq.symm (Bool.eq_false_iff.2 λ e => ?_)
   obtain ⟨j,hj⟩:=List.mem_iff_getElem?.1 (show v∈il by simpa using e)
   have hjn:=(List.getElem?_eq_some_iff.1 hj).1
   exact HNo.out j (by have:=H.out.2.1;omega) hj
theorem hasB_any {w:World} {p:Option Addr} {n c:Nat} {il:List Bool} (h:RO w (.slice p n c) 1 n (bools il)) (hn:n≤1000000) (v:Bool):Calls Try.prog 51 #[.slice p n c,.bool v] w λ e w'=>e = .returned (.bool (il.contains v))∧w'=w:=by
 have HI:=Lib.hid (idxB_any h hn v)
 clear h hn
 go_enter Try.func51,Try.ntmps51
 go_wp2_with fail
 refine HI.out.mono ?_;rintro e w2 ⟨r,rfl,hr,rfl⟩
 have HR:=Lib.hid hr
 clear hr
 go_wp2_with fail
 go_ret
 refine ⟨congrArg (λ b=>Ending.returned (Value.bool b)) ?_,rfl⟩
 rw [←HR.out]
set_option maxRecDepth 100000 in
theorem pmeet_any {w:World} {p1 p2:Option Addr} {n1 c1 n2 c2:Nat} {l1 l2:List Bool} (h1:RO w (.slice p1 n1 c1) 1 n1 (bools l1)) (h2:RO w (.slice p2 n2 c2) 1 n2 (bools l2)) (hn1:n1≤1000000) (hn2:n2≤1000000) :
  Calls Try.prog 49 #[.slice p1 n1 c1,.slice p2 n2 c2] w λ e w'=>e = .returned (.bool (meetP l1 l2))∧w'=w:=by
 have hl1:l1.length=n1:=by have:=h1.1;simpa [bools] using this
 have hl2:l2.length=n2:=by have:=h2.1;simpa [bools] using this
 obtain ⟨m,hm⟩:∃ m,min n1 n2=m:=⟨_,rfl⟩
 have hmi:min (n1:Int) (n2:Int)=(m:Int):=by omega
 have H:=Lib.hid (And.intro h1 (And.intro h2 (And.intro hl1 (And.intro hl2 (And.intro (show m≤n1∧m≤n2∧m≤1000000∧(m=n1∨m=n2) by omega) hm)))))
 clear h1 h2 hn1 hn2 hl1 hl2 hm
 go_enter Try.func49,Try.ntmps49
 go_upto_region 1 with fail
 go_cut [10,11] from 6 to 12 (λ v10 v11 wx=>v10 = .int .i64 (m:Nat)∧v11 = .int .i64 0∧wx=w)
 case first =>
  go_wp2_with fail
  all_goals
   go_meet
   refine ⟨congrArg (Value.int .i64) ?_,rfl,rfl⟩
   have:=H.out.2.2.2.2.1
   have:=H.out.2.2.2.2.2
   omega
 case rest =>
  obtain ⟨rfl,rfl,hwc⟩:=hcut
  have hwc2:=hwc.symm
  clear hwc
  subst hwc2
  clear hmi
  go_wp2_with fail
  go_loopw [11] (λ iv wr=>∃ i:Nat,iv = .int .i64 (i:Nat)∧i≤m∧(∀ j,j<i→(l1.getD j false && l2.getD j false)=false)∧wr=w) (λ iv _=>m-(intOf iv).toNat)
  case atStart=>exact ⟨0,rfl,Nat.zero_le _,λ j hj=>absurd hj (Nat.not_lt_zero _),rfl⟩
  case round =>
   obtain ⟨i,rfl,him,hno,rfl⟩:=hrel
   have HNo:=Lib.hid hno
   clear hno
   by_cases hlt:i<m
   ·have hii:(i:Int)<(m:Int):=by omega
    have hi0:(0:Int)≤(i:Int):=by omega
    have hq:=H.out.2.2.2.2.1
    have hi1:(i:Int)<(n1:Int):=by omega
    have hi2:(i:Int)<(n2:Int):=by omega
    have hx1:=bools_at l1 i (by rw [H.out.2.2.1];omega)
    have hx2:=bools_at l2 i (by rw [H.out.2.2.2.1];omega)
    obtain ⟨b1,o1,rfl⟩:=H.out.1.sl hx1
    obtain ⟨b2,o2,rfl⟩:=H.out.2.1.sl hx2
    have c0:=H.out.1.cell hx1
    have d0:=H.out.2.1.cell hx2
    have hiw:IntKind.i64.wrap ((i:Int)+1)=((i+1:Nat):Int):=by rw [i64_of (by omega)];rfl
    obtain ⟨x1,hy1⟩:∃ x,l1.getD i false=x:=⟨_,rfl⟩
    obtain ⟨x2,hy2⟩:∃ x,l2.getD i false=x:=⟨_,rfl⟩
    rw [hy1] at c0
    rw [hy2] at d0
    have HY:=Lib.hid (And.intro hy1 (And.intro hy2 hlt))
    clear hx1 hx2 hy1 hy2 hlt him hq
    cases x1 <;> cases x2
    case true.true =>
     go_wp2_with fail
     go_ret
     have hm:=H.out.2.2.2.2.1
     have hl:=HY.out.2.2
     refine ⟨?_,rfl⟩
     rw [meetP_yes (i:=i) (by rw [H.out.2.2.1];omega) (by rw [H.out.2.2.2.1];omega) HY.out.1 HY.out.2.1]
     rfl
    all_goals
     go_wp2_with fail
     go_roundw
     case measure=>simp [intOf];have:=HY.out.2.2;omega
     case rel =>
      refine ⟨i+1,by go_num,HY.out.2.2,λ j hj => ?_,by first | rfl | trivial⟩
      by_cases hji:j=i
      ·subst hji
       rw [HY.out.1,HY.out.2.1];rfl
      ·exact HNo.out j (by omega)
   ·obtain rfl:m=i:=by omega
    have hii:¬(m:Int)<(m:Int):=by omega
    clear hlt him
    go_wp2_with fail
    go_ret
    refine ⟨?_,rfl⟩
    rw [meetP_no λ j hj1 hj2=>HNo.out j (by have:=H.out.2.2.2.2.1;have:=H.out.2.2.1;have:=H.out.2.2.2.1;omega)]
    rfl
end Go.Proofs.Ytlklleaocbnbcaa
