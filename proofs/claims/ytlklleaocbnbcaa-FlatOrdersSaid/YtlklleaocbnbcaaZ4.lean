import Derived.Test.YtlklleaocbnbcaaZ2
import Derived.Test.YtlklleaocbnbcaaZ3
namespace Go.Proofs.Ytlklleaocbnbcaa
set_option linter.unusedVariables false
open Go.RowKit
theorem infoRow:(Try.prog.info? 73).map (λ i=>(i.zero,i.size,i.bytes))=some (some (.slice none 0 0),1,24):=by kernel_rfl
set_option maxRecDepth 100000 in
theorem mk_rows (n:Nat) (hn:n≤1000000) (w:World):(Instr.makeSlice 84 (.int .i64 n) (.int .i64 n)).run Try.prog w = .ok (.slice (some ⟨w.heap.size,0,none⟩) n n) (w.alloc (.cells ((List.range n).map λ _=>Value.slice none 0 0).toArray 73)):=by
 obtain ⟨i0,hi,hz0,hz1,hz2⟩:=info_parts infoRow
 have h:=run_make (P:=Try.prog) w 84 73 i0 _ Try.underlying84 hi hz0 .i64 .i64 n n (by omega) (by omega) (by rw [hz2];omega) (by omega)
 rw [h,hz1]
 simp only [Int.toNat_natCast,Nat.mul_one,Value.cells]
 congr 3
 apply Array.ext'
 rw [toList_madeCells_one]
 show List.replicate n (Value.slice none 0 0)=List.map (λ x=>Value.slice none 0 0) (List.range n)
 rw [List.map_const',List.length_range]
theorem UsM.start {base:Nat} {w:World} (n:Nat) (hb:base≤w.heap.size):UsM base w.heap.size (w.alloc (.cells ((List.range n).map λ _=>Value.slice none 0 0).toArray 73)) (List.replicate n []) (λ _ => .slice none 0 0):=by
 refine ⟨⟨λ k => ?_,λ k k' h b e=>(by cases e),λ k e=>(by cases e),hb,by rw [World.size_alloc];omega⟩,?_,λ k _=>rfl⟩
 ·dsimp only
  rw [getD_repl]
  exact World.ownsRow_nil _ _ _ _
 ·rw [List.length_replicate]
  exact Blk.new _ _
abbrev usV (g n:Nat):Value := .slice (some ⟨g,0,none⟩) n n
def NoneR (w:World) (n:Nat) (e:Ending) (w':World):Prop:=∃ g,e = .returned (.agg #[usV g n])∧UsM w.heap.size g w' (List.replicate n []) (λ _ => .slice none 0 0)∧Below w.heap.size w w'
set_option maxRecDepth 100000 in
theorem none_any {w:World} {p:Option Addr} {n c:Nat} {v1 v2 v3 v4 v5 v6:Value} (hn:n≤1000):Calls Try.prog 36 #[.agg #[.slice p n c,v1,v2,v3,v4,v5,v6]] w (NoneR w n):=by
 have hmk:=λ w=>mk_rows n (by omega) w
 have hb1:=Below.new w (.cells #[.slice p n c,v1,v2,v3,v4,v5,v6] 31)
 have H:=Lib.hid hb1
 clear hb1 hn
 go_enter Try.func36,Try.ntmps36
 go_wp2_with fail
 have hb2:=Below.next H.out (Below.new (w.alloc (.cells #[.slice p n c,v1,v2,v3,v4,v5,v6] 31)) (.cells #[usV (w.heap.size+1+1) n] 86))
 have hus:=UsM.start (w:=(w.alloc (.cells #[.slice p n c,v1,v2,v3,v4,v5,v6] 31)).alloc (.cells #[usV (w.heap.size+1+1) n] 86)) (base:=w.heap.size) n hb2.size
 simp only [World.size_alloc] at hus
 refine bodyPost_ret (v := .agg #[usV (w.heap.size+1+1) n]) (by simp [results,Try.results36,go_sem]) rfl ?_
 exact ⟨_,rfl,hus,Below.next hb2 (Below.new _ _)⟩
set_option maxRecDepth 100000 in
theorem rsize_any (x:Sg) (w:World):Calls Try.prog 70 #[.agg #[.string x.name,.int .i64 (x.w:Nat),.bool x.sg,.int .i64 (x.words:Nat)]] w λ e w'=>e = .returned (.int .i64 (x.size:Nat))∧Below w.heap.size w w':=by
 obtain ⟨xn,xw,xg,xq⟩:=x
 have hb1:=Lib.hid (Below.new w (.cells #[.string xn,.int .i64 xw,.bool xg,.int .i64 xq] 69))
 unfold Sg.size
 dsimp only
 by_cases hq:0<xq
 ·have hqi:(0:Int)<(xq:Int):=by omega
  rw [if_pos hq]
  clear hq
  go_enter Try.func70,Try.ntmps70
  go_wp2_with fail
  go_ret
  exact ⟨rfl,hb1.out⟩
 ·have hqi:¬(0:Int)<(xq:Int):=by omega
  rw [if_neg hq]
  clear hq
  go_enter Try.func70,Try.ntmps70
  go_wp2_with fail
  go_ret
  exact ⟨rfl,hb1.out⟩
def FV (g:Nat) (V:Nat→Value) (b:Nat):Prop:=b=g∨∃ k,(V k).ownBlock=some b
theorem UsM.flt {base g:Nat} {w:World} {u:Us} {V:Nat→Value} (h:UsM base g w u V):∀ b,FV g V b→base≤b∧b<w.heap.size:=λ b hb=>by
 rcases hb with rfl | ⟨k,hk⟩
 ·exact ⟨h.mem.hb,h.mem.lt⟩
 ·exact h.mem.lts k b hk
theorem Upd.lowF {F F':Nat→Prop} {w w':World} {base:Nat} (h:Upd F F' w w') (hF:∀ b,F b→base≤b) (hb:base≤w.heap.size):Below base w w' :=
 ⟨h.os,h.tape,h.output,h.size,λ k hk=>h.block k (by omega) (λ hf=>by have:=hF k hf;omega)⟩
structure AddS (base g:Nat) (w W:World) (V0:Nat→Value) (u:Us) (V:Nat→Value) (n:Nat):Prop where
 us:UsM base g W u V
 bu:Blk W (w.heap.size+1) 86 [usV g n]
 br:Blk W (w.heap.size+1+1) 86 [.slice none 0 0]
 up:Upd (FV g V0) (FV g V) w W
 far:∀ k b,(V k).ownBlock=some b→b<w.heap.size∨w.heap.size+3≤b
 lt:g<w.heap.size
theorem AddS.below {base g:Nat} {w W W':World} {V0:Nat→Value} {u:Us} {V:Nat→Value} {n:Nat} (h:AddS base g w W V0 u V n) (hb:Below W.heap.size W W'):AddS base g w W' V0 u V n :=
 ⟨h.us.below hb,h.bu.next hb,h.br.next hb,h.up.trans (Upd.below hb),h.far,h.lt⟩
theorem AddS.bit {base g:Nat} {w W:World} {V0:Nat→Value} {u:Us} {V:Nat→Value} {n:Nat} (h:AddS base g w W V0 u V n) {k i b c:Nat} (hk:k<u.length) (hi:i<(u.getD k []).length) (hv:V k = .slice (some ⟨b,0,none⟩) (u.getD k []).length c) (x:Bool) :
  AddS base g w (W.setCell ⟨b,i,none⟩ (.bool x)) V0 (u.set k ((u.getD k []).set i x)) V n:=by
 obtain ⟨h1,h2⟩:=h.us.bit hk hi hv x
 have hb:=h.far k b (by rw [hv];rfl)
 have hu:Upd (FV g V) (FV g V) W (W.setCell ⟨b,i,none⟩ (.bool x)):=⟨rfl,rfl,rfl,by simp,λ j _ hn=>Below.heap_setCell _ _ _ _ (λ e=>hn (.inr ⟨k,by rw [hv,e];rfl⟩)),λ j hj => .inl hj⟩
 exact ⟨h1,h.bu.other _ (by show w.heap.size+1≠b;omega),h.br.other _ (by show w.heap.size+1+1≠b;omega),h.up.trans hu,h.far,h.lt⟩
theorem AddS.fresh {base g:Nat} {w W:World} {V0:Nat→Value} {u:Us} {V:Nat→Value} {n:Nat} (h:AddS base g w W V0 u V n) (hs:w.heap.size+3≤W.heap.size) {k m:Nat} (hk:k<u.length) (h0:u.getD k [] = []) (hn:0<m) (hm:m≤1000000) :
  AddS base g w ((W.alloc (.cells (bools (List.replicate m false)).toArray 4)).setCell ⟨g,k,none⟩ (.slice (some ⟨W.heap.size,0,none⟩) m m)) V0 (u.set k (List.replicate m false)) (λ j=>if j=k then .slice (some ⟨W.heap.size,0,none⟩) m m else V j) n:=by
 obtain ⟨h1,h2⟩:=h.us.fresh hk h0 hn hm
 have hb:=Below.new W (.cells (bools (List.replicate m false)).toArray 4)
 have hu:Upd (FV g V) (FV g λ j=>if j=k then .slice (some ⟨W.heap.size,0,none⟩) m m else V j) W ((W.alloc (.cells (bools (List.replicate m false)).toArray 4)).setCell ⟨g,k,none⟩ (.slice (some ⟨W.heap.size,0,none⟩) m m)):=by
  refine ⟨rfl,rfl,rfl,Nat.le_trans hb.size (by simp),λ j hj hn => ?_,λ j hj => ?_⟩
  ·rw [Below.heap_setCell _ _ _ _ (λ e=>hn (.inl e))]
   exact hb.block j hj
  ·rcases hj with e | ⟨i,hi⟩
   ·exact .inl (.inl e)
   ·dsimp only at hi
    split at hi
    ·have e:W.heap.size=j:=by simpa [Value.ownBlock] using hi
     exact .inr (by omega)
    ·exact .inl (.inr ⟨i,hi⟩)
 refine ⟨h1,(h.bu.next (Below.new _ _)).other _ (by show w.heap.size+1≠g;have:=h.lt;omega),(h.br.next (Below.new _ _)).other _ (by show w.heap.size+1+1≠g;have:=h.lt;omega),h.up.trans hu,λ j b hb => ?_,h.lt⟩
 split at hb
 ·have e:W.heap.size=b:=by simpa [Value.ownBlock] using hb
  omega
 ·exact h.far j b hb
theorem UsM.other {base g:Nat} {W:World} {u:Us} {V:Nat→Value} (h:UsM base g W u V) {b i:Nat} (hb:¬FV g V b) (v:Value):UsM base g (W.setCell ⟨b,i,none⟩ v) u V :=
 ⟨h.mem.keep (by simp) λ k b' hb'=>Below.heap_setCell _ _ _ _ (λ e=>hb (.inr ⟨k,by have e':b'=b:=e;rw [←e'];exact hb'⟩)),h.blk.other _ (λ e=>hb (.inl (Eq.symm e))),h.nil⟩
theorem AddS.fin {base g:Nat} {w W:World} {V0:Nat→Value} {u:Us} {V:Nat→Value} {n:Nat} (h:AddS base g w W V0 u V n) (v:Value):∃ V,UsM base g (W.setCell ⟨w.heap.size+1+1,0,none⟩ v) u V∧Upd (FV g V0) (FV g V) w (W.setCell ⟨w.heap.size+1+1,0,none⟩ v):=by
 have hlt:=h.lt
 have hn:¬FV g V (w.heap.size+1+1):=by
  rintro (e | ⟨k,hk⟩)
  ·omega
  ·have:=h.far k _ hk;omega
 refine ⟨V,h.us.other hn v,⟨h.up.os,h.up.tape,h.up.output,Nat.le_trans h.up.size (by simp),λ k hk hn => ?_,h.up.sub⟩⟩
 rw [Below.heap_setCell _ _ _ _ (show k≠(⟨w.heap.size+1+1,0,none⟩:Addr).block by show k≠w.heap.size+1+1;omega)]
 exact h.up.block k hk hn
def rowTo (l:List Bool) (L lo w i:Nat):List Bool:=(List.range L).map λ j=>l.getD j false || (decide (j<i) && (decide (lo≤j) && decide (j<lo+w)))
theorem rowTo_len (l:List Bool) (L lo w i:Nat):(rowTo l L lo w i).length=L:=by simp [rowTo]
theorem rowTo_end (l:List Bool) (L lo w:Nat):rowTo l L lo w L=orBits L l lo w:=by
 unfold rowTo orBits
 exact List.map_congr_left λ j hj=>by rw [decide_eq_true (List.mem_range.1 hj),Bool.true_and]
theorem rowTo_zero (l:List Bool) (L lo w:Nat) (h:l = []∨l.length=L):rowTo l L lo w 0=if l = [] then List.replicate L false else l:=by
 unfold rowTo
 apply List.ext_getElem?
 intro j
 rw [List.getElem?_map]
 by_cases hj:j<L
 ·rw [List.getElem?_range hj]
  rcases h with rfl | h
  ·simp [hj]
  ·have hne:l ≠ []:=λ e=>by subst e;simp at h;omega
   rw [if_neg hne,List.getElem?_eq_getElem (by omega)]
   simp [List.getD,List.getElem?_eq_getElem (show j<l.length by omega)]
 ·rw [List.getElem?_eq_none (by simpa using hj)]
  split
  ·rw [List.getElem?_replicate,if_neg hj];rfl
  ·rename_i hne
   rcases h with h | h
   ·exact absurd h hne
   ·rw [List.getElem?_eq_none (by omega)];rfl
theorem rowTo_skip (l:List Bool) (L lo w i:Nat) (h:¬(lo≤i∧i<lo+w)):rowTo l L lo w (i+1)=rowTo l L lo w i:=by
 unfold rowTo
 refine List.map_congr_left λ j hj => ?_
 by_cases e:j=i
 ·subst e
  have:(decide (lo≤j) && decide (j<lo+w))=false:=by
   rw [Bool.eq_false_iff];intro hh;simp at hh;exact h hh
  rw [this];simp
 ·rw [show decide (j<i+1)=decide (j<i) from by rw [decide_eq_decide];omega]
theorem rowTo_step (l:List Bool) (L lo w i:Nat) (h:lo≤i∧i<lo+w):rowTo l L lo w (i+1)=(rowTo l L lo w i).set i true:=by
 apply List.ext_getElem?
 intro j
 rw [List.getElem?_set]
 unfold rowTo
 rw [List.getElem?_map,List.getElem?_map,List.length_map,List.length_range]
 by_cases hj:j<L
 ·rw [List.getElem?_range hj]
  by_cases e:i=j
  ·subst e;simp [hj,h.1,h.2]
  ·rw [if_neg e]
   simp only [Option.map_some]
   rw [show decide (j<i+1)=decide (j<i) from by rw [decide_eq_decide];omega]
 ·rw [List.getElem?_eq_none (by simpa using hj)]
  split
  ·rename_i e;subst e;rw [if_neg hj];rfl
  ·rfl
theorem set_self_us (u:Us) (k:Nat) (h:k<u.length):u.set k (u.getD k [])=u:=by
 apply List.ext_getElem?
 intro j
 rw [List.getElem?_set]
 split
 ·rename_i e
  subst e
  first
   | rw [if_pos h,List.getD,List.getElem?_eq_getElem h];rfl
   | rw [List.getD,List.getElem?_eq_getElem h];rfl
 ·rfl
theorem getD_set_same (u:Us) (k:Nat) (r:List Bool) (h:k<u.length):(u.set k r).getD k []=r:=by rw [getD_set_us,if_pos ⟨rfl,h⟩]
theorem set_set_us (u:Us) (k:Nat) (r r':List Bool):(u.set k r).set k r'=u.set k r':=List.set_set ..
def AddR (base g n:Nat) (w:World) (V0:Nat→Value) (u:Us) (e:Ending) (w':World):Prop:=e = .returned (.agg #[usV g n])∧∃ V,UsM base g w' u V∧Upd (FV g V0) (FV g V) w w'
structure SgsM (base:Nat) (w:World) (p:Option Addr) (c:Nat) (l:List Sg):Prop where
 ra:ROA (λ k=>k<base) w (.slice p l.length c) 4 l.length (sigCells l)
 pos:1≤l.length
 le:l.length≤1000
 sz:∀ x∈l,1≤x.size∧x.size≤1000
theorem SgsM.ro {base:Nat} {w:World} {p:Option Addr} {c:Nat} {l:List Sg} (h:SgsM base w p c l):RO w (.slice p l.length c) 4 l.length (sigCells l):=h.ra.ro
theorem SgsM.low {base:Nat} {w w':World} {p:Option Addr} {c:Nat} {l:List Sg} (h:SgsM base w p c l) (hb:Below base w w'):SgsM base w' p c l:=⟨h.ra.turn λ k hk _=>⟨hk,hb.block k hk⟩,h.pos,h.le,h.sz⟩
theorem SgsM.at {base:Nat} {w:World} {b o c:Nat} {l:List Sg} (h:SgsM base w (some ⟨b,o,none⟩) c l):b<base:=by
 have hp:=h.pos
 obtain ⟨_,p',c',e,_,h3⟩:=h.ra
 obtain ⟨b',o',e',hA,_⟩:=h3 _ _ (sigCells_at (List.getElem?_eq_getElem (show 0<l.length from hp))).1
 cases e;cases e';exact hA
set_option maxRecDepth 100000 in
set_option maxHeartbeats 8000000 in
theorem radd_any {base g:Nat} {w:World} {u:Us} {V:Nat→Value} {p:Option Addr} {c:Nat} {l:List Sg} {v1 v2 v3 v4 v5 v6:Value} (h:UsM base g w u V) (hw:WU (sizes l) u) (hs:SgsM base w p c l) (a:Atom) (ha:a.s<l.length) (hlo:a.lo≤1000) (haw:a.w≤1000) :
  Calls Try.prog 59 #[.agg #[.slice p l.length c,v1,v2,v3,v4,v5,v6],.agg #[usV g l.length],.int .i64 a.s,.int .i64 a.lo,.int .i64 a.w] w (AddR base g l.length w V (addP (sizes l) u a)):=by
 obtain ⟨s,lo,wd⟩:=a
 dsimp only at ha hlo haw ⊢
 have hul:u.length=l.length:=by rw [hw.1];simp [sizes]
 obtain ⟨x,hx⟩:∃ x,l[s]? = some x:=⟨_,List.getElem?_eq_getElem ha⟩
 have hsz:(sizes l).getD s 0=x.size:=by rw [sizes,List.getD,List.getElem?_map,hx];rfl
 obtain ⟨hz1,hz2⟩:=hs.sz _ (List.mem_of_getElem? hx)
 have hrow:=hw.2 s
 rw [hsz] at hrow
 have hfin:addP (sizes l) u ⟨s,lo,wd⟩=u.set s (rowTo (u.getD s []) x.size lo wd x.size):=by unfold addP;rw [rowTo_end,hsz]
 rw [hfin]
 obtain ⟨b,o,rfl⟩:=hs.ro.sl (sigCells_at hx).1
 have hsu:s<u.length:=by omega
 have hbb:=hs.at
 have hgb:=h.ge
 have hbg:g≠b:=by omega
 have hb3:Below w.heap.size w (((w.alloc (.cells #[.slice (some ⟨b,o,none⟩) l.length c,v1,v2,v3,v4,v5,v6] 31)).alloc (.cells #[usV g l.length] 86)).alloc (.cells #[.slice none 0 0] 86)) :=
  Below.next (Below.next (Below.new _ _) (Below.new _ _)) (Below.new _ _)
 have hbu:Blk (((w.alloc (.cells #[.slice (some ⟨b,o,none⟩) l.length c,v1,v2,v3,v4,v5,v6] 31)).alloc (.cells #[usV g l.length] 86)).alloc (.cells #[.slice none 0 0] 86)) (w.heap.size+1) 86 [usV g l.length]:=by
  have:=(Blk.new (w:=w.alloc (.cells #[.slice (some ⟨b,o,none⟩) l.length c,v1,v2,v3,v4,v5,v6] 31)) 86 [usV g l.length]).next (Below.new _ (.cells #[.slice none 0 0] 86))
  rw [World.size_alloc] at this
  exact this
 have hbr:Blk (((w.alloc (.cells #[.slice (some ⟨b,o,none⟩) l.length c,v1,v2,v3,v4,v5,v6] 31)).alloc (.cells #[usV g l.length] 86)).alloc (.cells #[.slice none 0 0] 86)) (w.heap.size+1+1) 86 [.slice none 0 0]:=by
  have:=Blk.new (w:=(w.alloc (.cells #[.slice (some ⟨b,o,none⟩) l.length c,v1,v2,v3,v4,v5,v6] 31)).alloc (.cells #[usV g l.length] 86)) 86 [.slice none 0 0]
  rw [World.size_alloc,World.size_alloc] at this
  exact this
 have hbd:Blk (((w.alloc (.cells #[.slice (some ⟨b,o,none⟩) l.length c,v1,v2,v3,v4,v5,v6] 31)).alloc (.cells #[usV g l.length] 86)).alloc (.cells #[.slice none 0 0] 86)) w.heap.size 31 [.slice (some ⟨b,o,none⟩) l.length c,v1,v2,v3,v4,v5,v6] :=
  (Blk.new (w:=w) 31 [.slice (some ⟨b,o,none⟩) l.length c,v1,v2,v3,v4,v5,v6]).next (Below.next (Below.new _ _) (Below.new _ _))
 have hA:AddS base g w (((w.alloc (.cells #[.slice (some ⟨b,o,none⟩) l.length c,v1,v2,v3,v4,v5,v6] 31)).alloc (.cells #[usV g l.length] 86)).alloc (.cells #[.slice none 0 0] 86)) V u V l.length :=
  ⟨h.below hb3,hbu,hbr,Upd.below hb3,λ k b' hb' => .inl (h.mem.lts k b' hb').2,h.mem.lt⟩
 have hw3:(((w.alloc (.cells #[.slice (some ⟨b,o,none⟩) l.length c,v1,v2,v3,v4,v5,v6] 31)).alloc (.cells #[usV g l.length] 86)).alloc (.cells #[.slice none 0 0] 86)).heap.size=w.heap.size+3:=by simp only [World.size_alloc]
 have hs3:=hs.ro.below hb3
 obtain ⟨z,hz⟩:∃ z,x.size=z:=⟨_,rfl⟩
 rw [hz] at hsz hz1 hz2 hrow hfin ⊢
 have HSz:=Lib.hid (rsize_any x)
 rw [hz] at HSz
 have hmk:=λ w=>mk_bools z (by omega) w
 have H:=Lib.hid (And.intro hsu (And.intro hrow (And.intro hz1 (And.intro hz2 (And.intro hul hw3)))))
 have HA:=Lib.hid (And.intro hA (And.intro hbd (hs3)))
 have HX:=Lib.hid hx
 obtain ⟨N,hN⟩:∃ N,l.length=N:=⟨_,rfl⟩
 have HN:=Lib.hid hN
 rw [hN] at HA H ⊢
 have hsN:(s:Int)<(N:Int):=by omega
 have hs0:(0:Int)≤(s:Int):=by omega
 clear hbb hgb h hw hs hx hz hsz hz1 hz2 hrow hfin hsu hb3 hbu hbr hbd hA hw3 hs3 hul ha hN
 go_enter Try.func59,Try.ntmps59
 go_upto_region 1 with fail
 generalize ((w.alloc (.cells #[.slice (some ⟨b,o,none⟩) N c,v1,v2,v3,v4,v5,v6] 31)).alloc (.cells #[usV g N] 86)).alloc (.cells #[.slice none 0 0] 86)=w3 at *
 have u0:=HA.out.1.bu.cell (i:=0) rfl
 have g0:=HA.out.1.us.row H.out.1
 obtain ⟨pr,cr,hVr⟩:=HA.out.1.us.form s
 rw [hVr] at g0
 obtain ⟨L0,hL0⟩:∃ L0,(u.getD s []).length=L0:=⟨_,rfl⟩
 rw [hL0] at g0
 have HV:=Lib.hid (And.intro hVr hL0)
 clear hVr hL0
 go_upto_if 18 with fail
 go_cut [] from 19 (λ wx=>∃ V',AddS base g w wx V (u.set s (rowTo (u.getD s []) z lo wd 0)) V' N)
 case first =>
  by_cases hL:L0=0
  ·subst hL
   have h0:u.getD s [] = []:=List.eq_nil_of_length_eq_zero HV.out.2
   have d0:=HA.out.2.1.cell (i:=0) rfl
   have s1:=HA.out.2.2.cell (sigCells_at HX.out).1
   have s2:=HA.out.2.2.cell (sigCells_at HX.out).2.1
   have s3:=HA.out.2.2.cell (sigCells_at HX.out).2.2.1
   have s4:=HA.out.2.2.cell (sigCells_at HX.out).2.2.2
   rw [←Nat.add_assoc] at s2 s3 s4
   have s0:w3.drew.cell? ⟨w.heap.size+1,0,none⟩=some (usV g N)∧w3.drew.cell? ⟨w.heap.size,0,none⟩=some (.slice (some ⟨b,o,none⟩) N c)∧w3.drew.cell? ⟨b,o+s*4,none⟩=some (.string x.name)∧w3.drew.cell? ⟨b,o+s*4+1,none⟩=some (.int .i64 (x.w:Nat))∧w3.drew.cell? ⟨b,o+s*4+2,none⟩=some (.bool x.sg)∧w3.drew.cell? ⟨b,o+s*4+3,none⟩=some (.int .i64 (x.words:Nat)):=⟨u0,d0,s1,s2,s3,s4⟩
   have H0:=Lib.hid h0
   have hgl:=Lib.hid (show g<w3.heap.size from HA.out.1.us.mem.lt)
   have hg1:g≠w.heap.size+1:=by have:=HA.out.1.lt;omega
   have hg2:g≠w.heap.size:=by have:=HA.out.1.lt;omega
   clear u0 g0 d0 s1 s2 s3 s4 h0
   go_upto_region 2 with fail
   go_region_held3 (λ w'=>w'.cell? ⟨w.heap.size+1,0,none⟩=some (usV g N)∧w'.cell? ⟨w.heap.size,0,none⟩=some (.slice (some ⟨b,o,none⟩) N c)∧w'.cell? ⟨b,o+s*4,none⟩=some (.string x.name)∧w'.cell? ⟨b,o+s*4+1,none⟩=some (.int .i64 (x.w:Nat))∧w'.cell? ⟨b,o+s*4+2,none⟩=some (.bool x.sg)∧w'.cell? ⟨b,o+s*4+3,none⟩=some (.int .i64 (x.words:Nat)))
    (first | (with_reducible assumption) | (exact ⟨(World.cell?_setCell_far _ _ _ _ hg1).trans s6a.1,(World.cell?_setCell_far _ _ _ _ hg2).trans s6a.2.1,(World.cell?_setCell_far _ _ _ _ hbg).trans s6a.2.2.1,(World.cell?_setCell_far _ _ _ _ hbg).trans s6a.2.2.2.1,(World.cell?_setCell_far _ _ _ _ hbg).trans s6a.2.2.2.2.1,(World.cell?_setCell_far _ _ _ _ hbg).trans s6a.2.2.2.2.2⟩))
    (first
     | (go_at_call 70;have hca:=HSz.out w3.drew;with_reducible refine hca.mono ?_;clear hca;rintro e w6 ⟨rfl,hb6⟩;have s6:w6.cell? ⟨w.heap.size+1,0,none⟩=some (usV g N)∧w6.cell? ⟨w.heap.size,0,none⟩=some (.slice (some ⟨b,o,none⟩) N c)∧w6.cell? ⟨b,o+s*4,none⟩=some (.string x.name)∧w6.cell? ⟨b,o+s*4+1,none⟩=some (.int .i64 (x.w:Nat))∧w6.cell? ⟨b,o+s*4+2,none⟩=some (.bool x.sg)∧w6.cell? ⟨b,o+s*4+3,none⟩=some (.int .i64 (x.words:Nat)):=⟨(hb6.cell (World.block_lt_of_cell? _ _ s0.1)).trans s0.1,(hb6.cell (World.block_lt_of_cell? _ _ s0.2.1)).trans s0.2.1,(hb6.cell (World.block_lt_of_cell? _ _ s0.2.2.1)).trans s0.2.2.1,(hb6.cell (World.block_lt_of_cell? _ _ s0.2.2.2.1)).trans s0.2.2.2.1,(hb6.cell (World.block_lt_of_cell? _ _ s0.2.2.2.2.1)).trans s0.2.2.2.2.1,(hb6.cell (World.block_lt_of_cell? _ _ s0.2.2.2.2.2)).trans s0.2.2.2.2.2⟩;have s6a:(w6.alloc (.cells (bools (List.replicate z false)).toArray 4)).cell? ⟨w.heap.size+1,0,none⟩=some (usV g N)∧(w6.alloc (.cells (bools (List.replicate z false)).toArray 4)).cell? ⟨w.heap.size,0,none⟩=some (.slice (some ⟨b,o,none⟩) N c)∧(w6.alloc (.cells (bools (List.replicate z false)).toArray 4)).cell? ⟨b,o+s*4,none⟩=some (.string x.name)∧(w6.alloc (.cells (bools (List.replicate z false)).toArray 4)).cell? ⟨b,o+s*4+1,none⟩=some (.int .i64 (x.w:Nat))∧(w6.alloc (.cells (bools (List.replicate z false)).toArray 4)).cell? ⟨b,o+s*4+2,none⟩=some (.bool x.sg)∧(w6.alloc (.cells (bools (List.replicate z false)).toArray 4)).cell? ⟨b,o+s*4+3,none⟩=some (.int .i64 (x.words:Nat)):=⟨ca s6.1 _,ca s6.2.1 _,ca s6.2.2.1 _,ca s6.2.2.2.1 _,ca s6.2.2.2.2.1 _,ca s6.2.2.2.2.2 _⟩;have HA6:Hid (AddS base g w w6 V u V N∧w3.drew.heap.size≤w6.heap.size):=Lib.hid (And.intro (AddS.below (AddS.below HA.out.1 (Below.refl w3.heap.size w3).drew) hb6) hb6.size);have HA7:Hid (AddS base g w (w6.alloc (.cells (bools (List.replicate z false)).toArray 4)) V u V N):=Lib.hid (AddS.below HA6.out.1 (Below.new _ _));have r0:(w6.alloc (.cells (bools (List.replicate z false)).toArray 4)).cell? ⟨g,s,none⟩=some (V s):=UsM.row HA7.out.us H.out.1;have f0:(w6.alloc (.cells (bools (List.replicate z false)).toArray 4)).frozen? ⟨g,s,none⟩=false:=Blk.frz HA7.out.us.blk s;clear hb6))
   have hr:=rowTo_zero (u.getD s []) z lo wd H.out.2.1
   rw [if_pos H0.out] at hr
   have hfr:=HA6.out.1.fresh (k:=s) (m:=z) (by have h1:w3.drew.heap.size=w3.heap.size:=rfl;have:=H.out.2.2.2.2.2;have:=HA6.out.2;omega) H.out.1 H0.out (by have:=H.out.2.2.1;omega) (by have:=H.out.2.2.2.1;omega)
   have HF:=Lib.hid hfr
   have HR:=Lib.hid hr
   clear hr hfr s0 s6 s6a r0 f0 hg1 hg2
   go_wp2_with fail
   go_meet
   exact ⟨_,by rw [HR.out];exact HF.out⟩
  ·have hLi:((L0:Int) == 0)=false:=by simp;omega
   have hne:u.getD s [] ≠ []:=λ e=>by rw [e] at HV;have:=HV.out.2;simp at this;omega
   have hr:=rowTo_zero (u.getD s []) z lo wd H.out.2.1
   rw [if_neg hne] at hr
   have HR:=Lib.hid hr
   clear hr hne hL
   go_wp2_with fail
   go_meet
   exact ⟨V,by rw [HR.out,set_self_us u s H.out.1];exact HA.out.1⟩
 case rest =>
  obtain ⟨V',hA'⟩:=hcut
  have HA0:=Lib.hid hA'
  clear hA' HA HV u0 g0 hmk HSz HX hsN hs0
  have hsN:(s:Int)<(N:Int):=by have:=H.out.1;have:=H.out.2.2.2.2.1;omega
  have hs0:(0:Int)≤(s:Int):=by omega
  go_wp2_with fail
  go_loopw [11] (λ iv wr=>∃ (i:Nat) (V1:Nat→Value),iv = .int .i64 i∧i≤z∧AddS base g w wr V (u.set s (rowTo (u.getD s []) z lo wd i)) V1 N) (λ iv _=>z-(intOf iv).toNat)
  case atStart=>exact ⟨0,V',rfl,Nat.zero_le _,HA0.out⟩
  case round =>
   obtain ⟨i,V1,rfl,hi,hA⟩:=hrel
   have hsl:s<(u.set s (rowTo (u.getD s []) z lo wd i)).length:=by rw [List.length_set];exact H.out.1
   have hgd:=getD_set_same u s (rowTo (u.getD s []) z lo wd i) H.out.1
   have hrl:=rowTo_len (u.getD s []) z lo wd i
   have u0:=hA.bu.cell (i:=0) rfl
   have g0:=hA.us.row hsl
   have HA:=Lib.hid hA
   by_cases hlt:i<z
   ·obtain ⟨b1,c1,hv,hc1,hf1,_,_⟩:=hA.us.at (k:=s) (i:=i) (by rw [hgd,hrl];exact hlt)
    have HV:=Lib.hid hv
    rw [hgd,hrl] at hv
    rw [hv] at g0
    have hi0:(0:Int)≤(i:Int):=by omega
    have hiz:(i:Int)<(z:Int):=by omega
    have hiw:IntKind.i64.wrap ((i:Int)+1)=((i+1:Nat):Int):=by rw [i64_of (by have:=H.out.2.2.2.1;omega)];omega
    have hsw:IntKind.i64.wrap ((i:Int)-(lo:Int))=(i:Int)-(lo:Int):=i64_of (by have:=H.out.2.2.2.1;omega)
    have HS:=Lib.hid (And.intro hsl (And.intro hgd (And.intro hrl hlt)))
    by_cases hin:lo≤i∧i<lo+wd
    ·have h1:decide (lo≤i)=true:=decide_eq_true hin.1
     have h2:(i:Int)-(lo:Int)<(wd:Int):=by omega
     have hst:=rowTo_step (u.getD s []) z lo wd i hin
     have hbt:=hA.bit (k:=s) (i:=i) hsl (by rw [hgd,hrl];exact hlt) HV.out true
     rw [hgd,←hst,set_set_us] at hbt
     have HB:=Lib.hid hbt
     clear hA hsl hgd hrl hlt hin hst hbt hv
     go_wp2_with fail
     go_roundw
     case rel=>exact ⟨i+1,V1,by go_num,HS.out.2.2.2,HB.out⟩
     case measure=>simp [intOf];have:=HS.out.2.2.2;omega
    ·have hst:=rowTo_skip (u.getD s []) z lo wd i hin
     have HSt:=Lib.hid hst
     by_cases h1:lo≤i
     ·have h1d:decide (lo≤i)=true:=decide_eq_true h1
      have h2:¬(i:Int)-(lo:Int)<(wd:Int):=by omega
      clear hA hsl hgd hrl hlt hin hst hv h1
      go_wp2_with fail
      go_roundw
      case rel=>exact ⟨i+1,V1,by go_num,HS.out.2.2.2,by rw [HSt.out];exact HA.out⟩
      case measure=>simp [intOf];have:=HS.out.2.2.2;omega
     ·have h1d:decide (lo≤i)=false:=decide_eq_false h1
      clear hA hsl hgd hrl hlt hin hst hv h1
      go_wp2_with fail
      go_roundw
      case rel=>exact ⟨i+1,V1,by go_num,HS.out.2.2.2,by rw [HSt.out];exact HA.out⟩
      case measure=>simp [intOf];have:=HS.out.2.2.2;omega
   ·obtain rfl:i=z:=by omega
    obtain ⟨p1,c1,hv⟩:=hA.us.form s
    rw [hgd,hrl] at hv
    rw [hv] at g0
    have b0:=hA.br.cell (i:=0) rfl
    have b1:=hA.br.frz 0
    clear hA hsl hgd hrl hlt hv
    go_wp2_with fail
    have hf:=HA.out.fin (usV g N)
    have e0:(wr.setCell ⟨w.heap.size+1+1,0,none⟩ (.slice (some ⟨g,0,none⟩) N N)).cell? ⟨w.heap.size+1+1,0,none⟩=some (.slice (some ⟨g,0,none⟩) N N):=(HA.out.br.set 0 _).cell (i:=0) rfl
    refine bodyPost_ret (v := .agg #[usV g N]) (by simp [results,Try.results59,go_sem,e0]) rfl ⟨rfl,hf⟩
structure ExS (base g bu:Nat) (w4 W:World) (V0:Nat→Value) (u:Us) (V:Nat→Value) (n:Nat):Prop where
 us:UsM base g W u V
 box:Blk W bu 86 [usV g n]
 up:Upd (λ b=>FV g V0 b∨b=bu) (λ b=>FV g V b∨b=bu) w4 W
 nb:¬FV g V bu
 lt:bu<w4.heap.size
section
variable {base g bu:Nat} {w w4 W W':World} {V0 V V':Nat→Value} {u u':Us} {n:Nat}
theorem ExS.below (h:ExS base g bu w4 W V0 u V n) (hb:Below W.heap.size W W'):ExS base g bu w4 W' V0 u V n :=
 ⟨h.us.below hb,h.box.next hb,h.up.trans (Upd.below hb),h.nb,h.lt⟩
theorem ExS.call (h:ExS base g bu w4 W V0 u V n) (hu:UsM base g W' u' V') (hp:Upd (FV g V) (FV g V') W W'):ExS base g bu w4 W' V0 u' V' n:=by
 refine ⟨hu,hp.blk h.box h.nb,h.up.trans ⟨hp.os,hp.tape,hp.output,hp.size,λ k hk hn=>hp.block k hk (λ e=>hn (.inl e)),λ k hk => ?_⟩,λ hb => ?_,h.lt⟩
 ·rcases hk with hk | hk
  ·rcases hp.sub k hk with h' | h'
   ·exact .inl (.inl h')
   ·exact .inr h'
  ·exact .inl (.inr hk)
 ·rcases hp.sub _ hb with h' | h'
  ·exact h.nb h'
  ·have:=h.box.lt;omega
theorem ExS.store (h:ExS base g bu w4 W V0 u V n):ExS base g bu w4 (W.setCell ⟨bu,0,none⟩ (.slice (some ⟨g,0,none⟩) n n)) V0 u V n :=
 ⟨h.us.other h.nb _,h.box.set 0 _,h.up.trans ⟨rfl,rfl,rfl,by simp,λ k _ hn=>Below.heap_setCell _ _ _ _ (λ e=>hn (.inr e)),λ k hk => .inl hk⟩,h.nb,h.lt⟩
theorem ExS.start (h:UsM base g w u V) (hb:Below w.heap.size w w4) (hbox:Blk w4 bu 86 [usV g n]) (hbu:w.heap.size≤bu):ExS base g bu w4 w4 V u V n :=
 ⟨h.below hb,hbox,Upd.refl _ _,λ hf=>by have:=(h.flt _ hf).2;omega,hbox.lt⟩
theorem ExS.old (h:ExS base g bu w4 W V0 u V n) {b t:Nat} {l:List Value} (hb:Blk w4 b t l) (h0:¬FV g V0 b) (hne:b≠bu):Blk W b t l :=
 h.up.blk hb (λ e=>e.elim h0 hne)
theorem ExS.low (h:ExS base g bu w4 W V0 u V n) (h0:∀ b,FV g V0 b→base≤b) (hbu:base≤bu) (hs:base≤w4.heap.size):Below base w4 W :=
 h.up.lowF (λ b hb=>hb.elim (h0 b) (λ e=>by omega)) hs
theorem ExS.fin (h:ExS base g bu w4 W V0 u V n) (hb:Below w.heap.size w w4) (h0:∀ b,FV g V0 b→b<w.heap.size) (hbu:w.heap.size≤bu) {br:Nat} (hbr:w.heap.size≤br) (hbr4:br<w4.heap.size) (hne:br≠bu) (v:Value) :
  ∃ V,UsM base g (W.setCell ⟨br,0,none⟩ v) u V∧Upd (FV g V0) (FV g V) w (W.setCell ⟨br,0,none⟩ v):=by
 have hn:¬FV g V br:=λ e=>by
  rcases h.up.sub br (.inl e) with (h' | h') | h'
  ·have:=h0 _ h';omega
  ·exact hne h'
  ·omega
 refine ⟨V,h.us.other hn v,⟨h.up.os.trans hb.os,h.up.tape.trans hb.tape,h.up.output.trans hb.output,Nat.le_trans hb.size (Nat.le_trans h.up.size (by simp)),λ k hk hnk => ?_,λ k hk => ?_⟩⟩
 ·rw [Below.heap_setCell _ _ _ _ (show k≠(⟨br,0,none⟩:Addr).block by show k≠br;omega),h.up.block k (Nat.lt_of_lt_of_le hk hb.size) (λ e=>e.elim hnk (λ e=>by omega))]
  exact hb.block k hk
 ·rcases h.up.sub k (.inl hk) with (h' | h') | h'
  ·exact .inl h'
  ·exact absurd (h' ▸ hk) h.nb
  ·exact .inr (Nat.le_trans hb.size h')
end
def ExC (base:Nat) (p:Option Addr) (c:Nat) (l:List Sg) (v1 v2 v3 v4 v5 v6:Value) (h:TH) (a:TL):Prop :=
 ∀ (g:Nat) (w:World) (u:Us) (V:Nat→Value) (cs:List Value),UsM base g w u V→WU (sizes l) u→SgsM base w p c l→TR (λ k=>k<base) w (.cons h a .nil) cs →
  Calls Try.prog 73 #[.agg #[.slice p l.length c,v1,v2,v3,v4,v5,v6],.agg #[usV g l.length],.agg cs.toArray] w (AddR base g l.length w V (addsP (sizes l) u (atT h a)))
def AllT (P:TH→TL→Prop):TL→Prop
 | .nil=>True
 | .cons h a r=>P h a∧AllT P r
theorem tr_at {A:Nat→Prop} {w:World} {h:TH} {a r:TL} {ac:List Value} {i:Nat} (ht:TR A w (.cons h a r) (ac.drop (i*8))) :
  ∃ op sg val vl av bc,(∀ j,j<8→ac[i*8+j]? = (tcells h op sg val av)[j]?)∧ROA A w val 1 vl.length (bools vl)∧ROA A w av 8 a.len bc∧TR A w a bc∧TR A w (.cons h a .nil) (tcells h op sg val av)∧TR A w r (ac.drop ((i+1)*8)):=by
 obtain ⟨hc,av,bc,cs',e,hl,⟨op,sg,val,vl,rfl,hv,hvl⟩,hr,ha,hrr⟩:=ht
 refine ⟨op,sg,val,vl,av,bc,λ j hj => ?_,hv,hr,ha,tr_mk hv hvl hr ha,?_⟩
 ·rw [←List.getElem?_drop,e,List.getElem?_append_left (by rw [hl];exact hj)]
 ·rw [Nat.add_mul,Nat.one_mul,←List.drop_drop,e,List.drop_append_of_le_length (by rw [hl];exact Nat.le_refl _),List.drop_of_length_le (by rw [hl];exact Nat.le_refl _),List.nil_append]
  exact hrr
end Go.Proofs.Ytlklleaocbnbcaa
