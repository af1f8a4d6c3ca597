import Derived.Test.YtlklleaocbnbcaaZ28
namespace Go.Proofs.Ytlklleaocbnbcaa
set_option linter.unusedVariables false
open Go.RowKit Go.Sort
def latU (l:List Sg) (h:SH):Us:=addsP (sizes l) (List.replicate l.length []) h.rd
def latB (l:List Sg) (h:SH) (s:Us) (k:Nat):Bool := !((latU l h).getD k []).isEmpty && (!(s.getD k []).isEmpty && (s.getD k []).contains false)
def latR (l:List Sg) (h:SH) (s:Us):Prop:=Till (λ k=>latB l h s k=false) l.length
def andR (r a b:List Bool) (k:Nat):List Bool:=(List.range r.length).map λ j=>if j<k then a.getD j false && b.getD j false else r.getD j false
def andT (s a b:Us) (i:Nat):Us:=(List.range s.length).map λ j=>if j<i then andR (s.getD j []) (a.getD j []) (b.getD j []) (s.getD j []).length else s.getD j []
def latN (h:SH) (a b s:Us):Us:=if h.k=3 then andT s a b s.length else if h.k=1∧h.idx.len=0 then s.set h.s (orBits (s.getD h.s []).length (s.getD h.s []) h.lo h.wd) else s
def latS:SL→Us→Us
 | .nil,s=>s
 | .cons h b e r,s=>latS r (latN h (latS b s) (latS e s) s)
def latC (l:List Sg):SL→Us→Prop
 | .nil,_=>True
 | .cons h b e r,s=>latR l h s∧(h.k=3→latC l b s∧latC l e s)∧latC l r (latN h (latS b s) (latS e s) s)
theorem andR_len (r a b:List Bool) (k:Nat):(andR r a b k).length=r.length:=by simp [andR]
theorem andR_at (r a b:List Bool) (k:Nat) {j:Nat} (hj:j<r.length):(andR r a b k)[j]? = some (if j<k then a.getD j false && b.getD j false else r.getD j false):=by
 unfold andR;rw [List.getElem?_map,List.getElem?_range hj];rfl
theorem andR_zero (r a b:List Bool):andR r a b 0=r:=by
 apply List.ext_getElem?
 intro j
 by_cases hj:j<r.length
 ·rw [andR_at r a b 0 hj,if_neg (Nat.not_lt_zero _),List.getD,List.getElem?_eq_getElem hj];rfl
 ·rw [List.getElem?_eq_none (by rw [andR_len];omega),List.getElem?_eq_none (by omega)]
theorem andR_succ (r a b:List Bool) (k:Nat):andR r a b (k+1)=(andR r a b k).set k (a.getD k false && b.getD k false):=by
 apply List.ext_getElem?
 intro j
 rw [List.getElem?_set]
 by_cases hj:j<r.length
 ·rw [andR_at r a b _ hj]
  by_cases e:k=j
  ·subst e;rw [if_pos (Nat.lt_succ_self _),if_pos rfl,if_pos (by rw [andR_len];exact hj)]
  ·rw [if_neg e,andR_at r a b _ hj]
   by_cases e2:j<k
   ·rw [if_pos e2,if_pos (by omega)]
   ·rw [if_neg e2,if_neg (by omega)]
 ·rw [List.getElem?_eq_none (by rw [andR_len];omega)]
  split
  ·rw [if_neg (by rw [andR_len];omega)]
  ·rw [List.getElem?_eq_none (by rw [andR_len];omega)]
theorem andT_len (s a b:Us) (i:Nat):(andT s a b i).length=s.length:=by simp [andT]
theorem andT_at (s a b:Us) (i:Nat) {j:Nat} (hj:j<s.length):(andT s a b i)[j]? = some (if j<i then andR (s.getD j []) (a.getD j []) (b.getD j []) (s.getD j []).length else s.getD j []):=by
 unfold andT;rw [List.getElem?_map,List.getElem?_range hj];rfl
theorem andT_zero (s a b:Us):andT s a b 0=s:=by
 apply List.ext_getElem?
 intro j
 by_cases hj:j<s.length
 ·rw [andT_at s a b 0 hj,if_neg (Nat.not_lt_zero _),List.getD,List.getElem?_eq_getElem hj];rfl
 ·rw [List.getElem?_eq_none (by rw [andT_len];omega),List.getElem?_eq_none (by omega)]
theorem andT_succ (s a b:Us) (i:Nat):andT s a b (i+1)=(andT s a b i).set i (andR (s.getD i []) (a.getD i []) (b.getD i []) (s.getD i []).length):=by
 apply List.ext_getElem?
 intro j
 rw [List.getElem?_set]
 by_cases hj:j<s.length
 ·rw [andT_at s a b _ hj]
  by_cases e:i=j
  ·subst e;rw [if_pos (Nat.lt_succ_self _),if_pos rfl,if_pos (by rw [andT_len];exact hj)]
  ·rw [if_neg e,andT_at s a b _ hj]
   by_cases e2:j<i
   ·rw [if_pos e2,if_pos (by omega)]
   ·rw [if_neg e2,if_neg (by omega)]
 ·rw [List.getElem?_eq_none (by rw [andT_len];omega)]
  split
  ·rw [if_neg (by rw [andT_len];omega)]
  ·rw [List.getElem?_eq_none (by rw [andT_len];omega)]
theorem andT_row (s a b:Us) (i j:Nat):((andT s a b i).getD j []).length=(s.getD j []).length:=by
 by_cases hj:j<s.length
 ·rw [List.getD,andT_at s a b i hj]
  show (if j<i then andR (s.getD j []) (a.getD j []) (b.getD j []) (s.getD j []).length else s.getD j []).length=_
  split
  ·rw [andR_len]
  ·rfl
 ·rw [List.getD,List.getElem?_eq_none (by rw [andT_len];omega),List.getD,List.getElem?_eq_none (by omega)]
theorem WU.same {sz:List Nat} {u v:Us} (h:WU sz u) (hl:v.length=u.length) (hr:∀ k,(v.getD k []).length=(u.getD k []).length):WU sz v:=by
 refine ⟨by rw [hl,h.1],λ k => ?_⟩
 rcases h.2 k with e | e
 ·left;have:=hr k;rw [e] at this;exact List.eq_nil_of_length_eq_zero this
 ·right;rw [hr k,e]
theorem latN_len (h:SH) (a b s:Us):(latN h a b s).length=s.length:=by
 unfold latN;split
 ·exact andT_len _ _ _ _
 ·split
  ·rw [List.length_set]
  ·rfl
theorem latN_row (h:SH) (a b s:Us) (k:Nat):((latN h a b s).getD k []).length=(s.getD k []).length:=by
 unfold latN;split
 ·exact andT_row _ _ _ _ _
 ·split
  ·rw [getD_set_us]
   split
   ·rename_i e;rw [orBits_len,e.1]
   ·rfl
  ·rfl
theorem WU.latN {sz:List Nat} {u:Us} (h:WU sz u) (x:SH) (a b:Us):WU sz (latN x a b u):=h.same (latN_len _ _ _ _) (latN_row _ _ _ _)
theorem WU.le {base:Nat} {w:World} {p:Option Addr} {c:Nat} {l:List Sg} (hs:SgsM base w p c l) {u:Us} (h:WU (sizes l) u) (k:Nat):(u.getD k []).length≤1000:=by
 rcases h.2 k with e | e
 ·rw [e];exact Nat.zero_le _
 ·rw [e,sizes,List.getD,List.getElem?_map]
  cases hx:l[k]? with
  | none=>exact Nat.zero_le _
  | some x=>exact (hs.sz x (List.mem_of_getElem? hx)).2
def FL (ab g:Nat) (V:Nat→Value) (k:Nat):Prop:=k=ab∨FV g V k
structure LQ (ab:Nat) (h:AHd) (b g:Nat) (V:Nat→Value) (w0:World) (e0:Int) (ls:Bx) (C:Prop) (u:Us) (W:World):Prop where
 an:∃ p1 p2 p3 e:Int,Blk W ab 103 (h.cells p1 p2 p3 e)∧(e=0↔e0=0∧C)
 us:UsM b g W u V
 up:Upd (FL ab g V) (FL ab g V) w0 W
 blk:∀ x∈ls,Blk W x.1 x.2.1 x.2.2∧w0.heap.size≤x.1
 lt:ab<w0.heap.size
 na:¬FV g V ab
 fl:∀ k,FV g V k→k<w0.heap.size
section
variable {ab b g:Nat} {h:AHd} {V:Nat→Value} {w0 W W':World} {e0:Int} {ls:Bx} {C C':Prop} {u u':Us}
theorem LQ.start {w:World} {p1 p2 p3 e:Int} (hb:Blk w ab 103 (h.cells p1 p2 p3 e)) (hu:UsM b g w u V) (hn:¬FV g V ab):LQ ab h b g V w e [] True u w :=
 ⟨⟨p1,p2,p3,e,hb,by simp⟩,hu,Upd.refl _ _,λ x hx=>(by cases hx),hb.lt,hn,λ k hk=>(hu.flt k hk).2⟩
theorem LQ.upd (hc:LQ ab h b g V w0 e0 ls C u W) {G G':Nat→Prop} (hu:Upd G G' W W') (hG:∀ k,G k→w0.heap.size≤k) (hx:∀ k,G k→∀ x∈ls,x.1≠k):LQ ab h b g V w0 e0 ls C u W':=by
 obtain ⟨p1,p2,p3,e,h1,h2⟩:=hc.an
 have hold:∀ k,k<w0.heap.size→W'.heap[k]? = W.heap[k]? := λ k hk=>hu.block k (Nat.lt_of_lt_of_le hk hc.up.size) (λ hg=>by have:=hG k hg;omega)
 refine ⟨⟨p1,p2,p3,e,?_,h2⟩,hc.us.stay hu.size λ k hk=>hold k (hc.fl k hk),⟨hu.os.trans hc.up.os,hu.tape.trans hc.up.tape,hu.output.trans hc.up.output,Nat.le_trans hc.up.size hu.size,λ k hk hn=>(hold k hk).trans (hc.up.block k hk hn),hc.up.sub⟩,λ x hx2=>⟨?_,(hc.blk x hx2).2⟩,hc.lt,hc.na,hc.fl⟩
 ·unfold Blk at h1 ⊢;rw [hold ab hc.lt];exact h1
 ·have hk:=(hc.blk x hx2).1
  unfold Blk at hk ⊢
  rw [hu.block _ (some_lt hk) (λ hg=>hx _ hg x hx2 rfl)];exact hk
theorem LQ.below (hc:LQ ab h b g V w0 e0 ls C u W) (hb:Below W.heap.size W W'):LQ ab h b g V w0 e0 ls C u W' :=
 hc.upd (G:=λ _=>False) (G':=λ _=>False) (Upd.below hb) (λ _ hk=>hk.elim) (λ _ hk=>hk.elim)
theorem LQ.drew (hc:LQ ab h b g V w0 e0 ls C u W):LQ ab h b g V w0 e0 ls C u W.drew:=hc.below (Below.refl _ _).drew
theorem LQ.lay (hc:LQ ab h b g V w0 e0 ls C u W) (t:Nat) (c:List Value):LQ ab h b g V w0 e0 ((W.heap.size,t,c)::ls) C u (W.alloc (.cells c.toArray t)):=by
 have h':=hc.below (Below.new W (.cells c.toArray t))
 refine ⟨h'.an,h'.us,h'.up,λ x hx => ?_,h'.lt,h'.na,h'.fl⟩
 rcases List.mem_cons.1 hx with rfl | hx
 ·exact ⟨Blk.new _ _,hc.up.size⟩
 ·exact h'.blk x hx
theorem LQ.drop (hc:LQ ab h b g V w0 e0 ls C u W) (j:Nat):LQ ab h b g V w0 e0 (ls.drop j) C u W:=⟨hc.an,hc.us,hc.up,λ x hx=>hc.blk x (List.mem_of_mem_drop hx),hc.lt,hc.na,hc.fl⟩
theorem LQ.iff (hc:LQ ab h b g V w0 e0 ls C u W) (hi:C↔C'):LQ ab h b g V w0 e0 ls C' u W:=by
 rw [←propext hi];exact hc
theorem LQ.at (hc:LQ ab h b g V w0 e0 ls C u W) (j:Nat) {a t:Nat} {l:List Value} (hj:ls[j]? = some (a,t,l)):Blk W a t l:=(hc.blk _ (List.mem_of_getElem? hj)).1
theorem LQ.low (hc:LQ ab h b g V w0 e0 ls C u W) {base:Nat} (ha:base≤ab) (hb:base≤b):Below base w0 W :=
 hc.up.lowF (λ k hk=>by
  rcases hk with e | e
  ·omega
  ·have:=(hc.us.flt k e).1;omega) (by have:=hc.lt;omega)
theorem LQ.cell (hc:LQ ab h b g V w0 e0 ls C u W) {i:Nat} {v:Value} (hi:∀ p1 p2 p3 e:Int,(h.cells p1 p2 p3 e)[i]? = some v):W.cell? ⟨ab,i,none⟩=some v:=by
 obtain ⟨p1,p2,p3,e,h1,_⟩:=hc.an
 exact h1.cell (hi _ _ _ _)
theorem LQ.bit (hc:LQ ab h b g V w0 e0 ls C u W) {k i c q:Nat} (hk:k<u.length) (hi:i<(u.getD k []).length) (hv:V k = .slice (some ⟨q,0,none⟩) (u.getD k []).length c) (x:Bool) :
  LQ ab h b g V w0 e0 ls C (u.set k ((u.getD k []).set i x)) (W.setCell ⟨q,i,none⟩ (.bool x)):=by
 obtain ⟨p1,p2,p3,e,h1,h2⟩:=hc.an
 have hq:FV g V q := .inr ⟨k,by rw [hv];rfl⟩
 have hqa:ab≠q:=λ e=>hc.na (by rw [e];exact hq)
 have hql:=hc.fl q hq
 refine ⟨⟨p1,p2,p3,e,h1.other _ hqa,h2⟩,(hc.us.bit hk hi hv x).1,⟨hc.up.os,hc.up.tape,hc.up.output,by simpa using hc.up.size,λ j hj hn => ?_,hc.up.sub⟩,λ y hy=>⟨(hc.blk y hy).1.other _ (show y.1≠q by have:=(hc.blk y hy).2;omega),(hc.blk y hy).2⟩,hc.lt,hc.na,hc.fl⟩
 rw [Below.heap_setCell _ _ _ _ (show j≠q from λ e=>hn (.inr (by rw [e];exact hq)))]
 exact hc.up.block j hj hn
theorem LQ.nest (hc:LQ ab h b g V w0 e0 ls C u W) {C2:Prop} {G:Nat→Prop} (ha:∀ p1 p2 p3 e:Int,Blk W ab 103 (h.cells p1 p2 p3 e)→∃ q1 q2 q3 e':Int,Blk W' ab 103 (h.cells q1 q2 q3 e')∧(e'=0↔e=0∧C2)) (hu:Upd G G W W')
  (hG:∀ k,G k→k=ab∨(w0.heap.size≤k∧∀ x∈ls,x.1≠k)):LQ ab h b g V w0 e0 ls (C∧C2) u W':=by
 obtain ⟨p1,p2,p3,e,h1,h2⟩:=hc.an
 obtain ⟨q1,q2,q3,e',h3,h4⟩:=ha _ _ _ _ h1
 have hold:∀ k,k<w0.heap.size→k≠ab→W'.heap[k]? = W.heap[k]? := λ k hk hn=>hu.block k (Nat.lt_of_lt_of_le hk hc.up.size) (λ hg=>by
  rcases hG k hg with e | e
  ·exact hn e
  ·omega)
 refine ⟨⟨q1,q2,q3,e',h3,by rw [h4,h2];exact and_assoc⟩,hc.us.stay hu.size λ k hk=>hold k (hc.fl k hk) (λ e=>hc.na (by rw [←e];exact hk)),⟨hu.os.trans hc.up.os,hu.tape.trans hc.up.tape,hu.output.trans hc.up.output,Nat.le_trans hc.up.size hu.size,λ k hk hn=>(hold k hk (λ e=>hn (.inl e))).trans (hc.up.block k hk hn),hc.up.sub⟩,λ x hx2=>⟨?_,(hc.blk x hx2).2⟩,hc.lt,hc.na,hc.fl⟩
 have hk:=(hc.blk x hx2).1
 unfold Blk at hk ⊢
 rw [hu.block _ (some_lt hk) (λ hg => ?_)]
 ·exact hk
 ·rcases hG _ hg with e | e
  ·have:=(hc.blk x hx2).2;have:=hc.lt;omega
  ·exact e.2 x hx2 rfl
end
theorem lq_fail {ab b g:Nat} {h:AHd} {V:Nat→Value} {w0 W:World} {e0:Int} {ls:Bx} {C:Prop} {u:Us} (hc:LQ ab h b g V w0 e0 ls C u W) (is:Bool) (q1 q2 q3 en:Int) (hen:en≠0) :
  Calls Try.prog 47 #[.pointer (some ⟨ab,0,none⟩),.bool is,.agg #[.int .i64 q1,.int .i64 q2,.int .i64 q3],.int .i64 en] W λ e w'=>e = .returned (.tuple #[])∧LQ ab h b g V w0 e0 ls (C∧is=false) u w'∧Upd (One ab) (One ab) W w':=by
 obtain ⟨p1,p2,p3,e,h1,h2⟩:=hc.an
 refine (fail_any (Ck.start h1) is q1 q2 q3 en hen).mono ?_
 rintro en w' ⟨rfl,hk⟩
 refine ⟨rfl,?_,hk.up⟩
 refine hc.nest (G:=One ab) (λ r1 r2 r3 e' hb => ?_) hk.up (λ k hk => .inl hk)
 obtain ⟨s1,s2,s3,e2,h3,h4⟩:=hk.an
 have:=blk_inj h1 hb
 unfold AHd.cells at this
 simp only [List.cons.injEq,Value.int.injEq,true_and,and_true] at this
 refine ⟨s1,s2,s3,e2,h3,?_⟩
 rw [h4,this.2.2.2]
 simp
def LatR (ab:Nat) (h:AHd) (b g N:Nat) (V:Nat→Value) (u':Us) (C:Prop) (w:World) (e0:Int) (e:Ending) (w':World):Prop :=
 e = .returned (usV g N)∧UsM b g w' u' V∧(∃ q1 q2 q3 e':Int,Blk w' ab 103 (h.cells q1 q2 q3 e')∧(e'=0↔e0=0∧C))∧Upd (FL ab g V) (FL ab g V) w w'
def LatK (base ab:Nat) (h:AHd) (l:List Sg) (sp:Option Addr) (sc:Nat) (kd y1 y2 y3:Nat) (bp:Option Addr) (bn bcp:Nat) (t:SL):Prop :=
 ∀ (b g:Nat) (w:World) (u:Us) (V:Nat→Value) (p1 p2 p3 e:Int) (p:Option Addr) (c:Nat) (cs:List Value),Blk w ab 103 (h.cells p1 p2 p3 e)→UsM b g w u V→base≤b→¬FV g V ab→WU (sizes l) u→SgsM base w sp sc l →
  ROA (λ q=>q<base) w (.slice p t.len c) 20 t.len cs→SF (λ q=>q<base) w t cs →
  Calls Try.prog 52 #[.pointer (some ⟨ab,0,none⟩),.agg #[.int .i64 kd,.int .i64 y1,.int .i64 y2,.int .i64 y3,.slice bp bn bcp],.slice p t.len c,usV g l.length] w (LatR ab h b g l.length V (latS t u) (latC l t u) w e)
end Go.Proofs.Ytlklleaocbnbcaa
