import Derived.Test.YtlklleaocbnbcaaZ2
namespace Go.Proofs.Ytlklleaocbnbcaa
set_option linter.unusedVariables false
open Go.RowKit
theorem Upd.blk {F F':Nat→Prop} {w w':World} {b t:Nat} {l:List Value} (h:Upd F F' w w') (hb:Blk w b t l) (hn:¬F b):Blk w' b t l:=by
 unfold Blk at *;rw [h.block b (some_lt hb) hn];exact hb
theorem ROA.upd {A:Nat→Prop} {F F':Nat→Prop} {w w':World} {v:Value} {size n:Nat} {cs:List Value} (h:ROA A w v size n cs) (hu:Upd F F' w w') (hA:∀ b,A b→¬F b):ROA A w' v size n cs :=
 h.turn λ b hb1 hb2=>⟨hb1,hu.block b hb2 (hA b hb1)⟩
theorem TR.upd {A:Nat→Prop} {F F':Nat→Prop} {w w':World} {t:TL} {cs:List Value} (h:TR A w t cs) (hu:Upd F F' w w') (hA:∀ b,A b→¬F b):TR A w' t cs :=
 h.turn ER.stay λ b hb1 hb2=>⟨hb1,hu.block b hb2 (hA b hb1)⟩
theorem TR.mono {A A':Nat→Prop} {w:World} {t:TL} {cs:List Value} (h:TR A w t cs) (hA:∀ b,A b→A' b):TR A' w t cs :=
 h.turn ER.stay λ b hb1 hb2=>⟨hA b hb1,rfl⟩
theorem ROA.mono {A A':Nat→Prop} {w:World} {v:Value} {size n:Nat} {cs:List Value} (h:ROA A w v size n cs) (hA:∀ b,A b→A' b):ROA A' w v size n cs :=
 h.turn λ b hb1 hb2=>⟨hA b hb1,rfl⟩
theorem sigCells_at {l:List Sg} {i:Nat} {x:Sg} (h:l[i]? = some x) :
  (sigCells l)[i*4]? = some (.string x.name)∧(sigCells l)[i*4+1]? = some (.int .i64 (x.w:Nat))∧(sigCells l)[i*4+2]? = some (.bool x.sg)∧(sigCells l)[i*4+3]? = some (.int .i64 (x.words:Nat)):=by
 unfold sigCells
 refine ⟨?_,?_,?_,?_⟩
 all_goals
  rw [flatMap_at _ 4 (by omega) (λ _=>rfl)]
  first
   | rw [show i*4 / 4=i by omega,show i*4 % 4=0 by omega,h];rfl
   | rw [show (i*4+1) / 4=i by omega,show (i*4+1) % 4=1 by omega,h];rfl
   | rw [show (i*4+2) / 4=i by omega,show (i*4+2) % 4=2 by omega,h];rfl
   | rw [show (i*4+3) / 4=i by omega,show (i*4+3) % 4=3 by omega,h];rfl
structure Sgs (l:List Sg):Prop where
 pos:1≤l.length
 le:l.length≤8
 w:∀ x∈l,1≤x.w∧x.w≤8∧x.words≤8
 hd:∀ x,l[0]? = some x→x.words=0
theorem one_no {l:List Sg} (h:Sgs l) {i:Nat} {x:Sg} (hx:l[i]? = some x) (h1:l.length=1) (hq:0<x.words):False:=by
 have hi:=(List.getElem?_eq_some_iff.1 hx).1
 obtain rfl:i=0:=by omega
 have:=h.hd x hx
 omega
theorem Sgs.one {l:List Sg} (h:Sgs l):Sgs (l.take 1):=by
 have:=h.pos
 refine ⟨by rw [List.length_take];omega,by rw [List.length_take];have:=h.le;omega,λ x hx=>h.w x (List.mem_of_mem_take hx),λ x hx=>h.hd x ?_⟩
 rw [List.getElem?_take] at hx
 simpa using hx
theorem sig_take {A:Nat→Prop} {w:World} {p:Option Addr} {c:Nat} {l:List Sg} (h:ROA A w (.slice p l.length c) 4 l.length (sigCells l)) (k:Nat) (hk:k≤l.length):ROA A w (.slice p k c) 4 (l.take k).length (sigCells (l.take k)):=by
 obtain ⟨h1,p',c',e,h4,h3⟩:=h
 cases e
 have hl:(l.take k).length=k:=by rw [List.length_take];omega
 have hcs:sigCells (l.take k)=(sigCells l).take (k*4):=by
  unfold sigCells
  have:∀ (l:List Sg) (k:Nat),(l.take k).flatMap (λ x => [Value.string x.name,.int .i64 (x.w:Nat),.bool x.sg,.int .i64 (x.words:Nat)])=(l.flatMap λ x => [Value.string x.name,.int .i64 (x.w:Nat),.bool x.sg,.int .i64 (x.words:Nat)]).take (k*4):=by
   intro l
   induction l with
   | nil=>intro k;simp
   | cons x l ih =>
    intro k
    cases k with
    | zero=>simp
    | succ k=>rw [List.take_succ_cons,List.flatMap_cons,List.flatMap_cons,ih k,Nat.add_mul];simp
  exact this l k
 refine ⟨by rw [hl];exact (flatMap_len _ 4 (λ _=>rfl) _).trans (by rw [hl]),p,c,by rw [hl],by omega,λ j u hj=>h3 j u ?_⟩
 rw [hcs,List.getElem?_take] at hj
 split at hj
 ·exact hj
 ·cases hj
def MakeR (bm n:Nat) (w:World) (e:Ending) (w':World):Prop :=
 ∃ h a cs,e = .returned (.agg cs.toArray)∧TR (From w.heap.size) w' (.cons h a .nil) cs∧(TL.cons h a .nil).wf n∧Mk bm w'∧Upd (One bm) (One bm) w w'
def MakeC (bm n:Nat) (sv:Value) (l:List Sg) (deep:Nat):Prop :=
 ∀ (w:World) (m:Nat),1≤m→m≤8→Mk bm w→ROA (λ b=>b≠bm) w sv 4 l.length (sigCells l)→Calls Try.prog 12 #[.pointer (some ⟨bm,0,none⟩),sv,.int .i64 m,.int .i64 deep] w (MakeR bm n w)
def z8:List Value := [.int .i64 0,.int .i64 0,.int .i64 0,.int .i64 0,.int .i64 0,.bool false,.slice none 0 0,.slice none 0 0]
structure MX (bm n:Nat) (w W:World) (bs:List (Nat × Nat × List Value)) (ts:List (TL × List Value)):Prop where
 maker:Mk bm W
 up:Upd (One bm) (One bm) w W
 lt:bm<w.heap.size
 big:w.heap.size<W.heap.size
 blk:∀ b∈bs,Blk W b.1 b.2.1 b.2.2∧w.heap.size≤b.1
 tr:∀ t∈ts,TR (From (w.heap.size+1)) W t.1 t.2∧t.1.wf n
section
variable {bm n:Nat} {w W W':World} {bs:List (Nat × Nat × List Value)} {ts:List (TL × List Value)}
theorem tree_ne {bm:Nat} {w:World} (h:bm<w.heap.size):∀ b,From (w.heap.size+1) b→¬One bm b:=λ b hb hb2=>by
 have h1:w.heap.size+1≤b:=hb
 have h2:b=bm:=hb2
 omega
theorem MX.call (h:MX bm n w W bs ts) (hm:Mk bm W') (hu:Upd (One bm) (One bm) W W'):MX bm n w W' bs ts :=
 ⟨hm,h.up.trans hu,h.lt,Nat.lt_of_lt_of_le h.big hu.size,λ b hb=>⟨hu.blk (h.blk b hb).1 (λ e=>by have:=(h.blk b hb).2;have:=h.lt;have:b.1=bm:=e;omega),(h.blk b hb).2⟩,λ t ht=>⟨(h.tr t ht).1.upd hu (tree_ne h.lt),(h.tr t ht).2⟩⟩
theorem MX.below (h:MX bm n w W bs ts) (hb:Below W.heap.size W W'):MX bm n w W' bs ts :=
 h.call (h.maker.below hb) (Upd.below hb)
theorem MX.lay (h:MX bm n w W bs ts) (t:Nat) (l:List Value):MX bm n w (W.alloc (.cells l.toArray t)) ((W.heap.size,t,l)::bs) ts:=by
 have h':=h.below (Below.new W (.cells l.toArray t))
 refine ⟨h'.maker,h'.up,h'.lt,h'.big,λ b hb => ?_,h'.tr⟩
 rcases List.mem_cons.1 hb with rfl | hb
 ·exact ⟨Blk.new t l,h.up.size⟩
 ·exact h'.blk b hb
theorem MX.start (hk:Mk bm w) (t:Nat) (l:List Value):MX bm n w (w.alloc (.cells l.toArray t)) [(w.heap.size,t,l)] []:=by
 refine ⟨hk.below (Below.new _ _),Upd.below (Below.new _ _),hk.lt,by rw [World.size_alloc];omega,λ b hb => ?_,λ t ht=>(by cases ht)⟩
 rw [List.mem_singleton.1 hb]
 exact ⟨Blk.new t l,Nat.le_refl _⟩
theorem MX.tree (h:MX bm n w W bs ts) (hu:Upd (One bm) (One bm) W W') (hm:Mk bm W') {t:TL} {cs:List Value} (ht:TR (From W.heap.size) W' t cs) (hw:t.wf n):MX bm n w W' bs ((t,cs)::ts):=by
 have h':=h.call hm hu
 refine ⟨h'.maker,h'.up,h'.lt,h'.big,h'.blk,λ x hx => ?_⟩
 rcases List.mem_cons.1 hx with rfl | hx
 ·exact ⟨ht.mono λ b hb=>by have:=h.big;have h2:W.heap.size≤b:=hb;show w.heap.size+1≤b;omega,hw⟩
 ·exact h'.tr x hx
theorem MX.at (h:MX bm n w W bs ts) (j:Nat) {b t:Nat} {l:List Value} (hj:bs[j]? = some (b,t,l)):Blk W b t l:=(h.blk _ (List.mem_of_getElem? hj)).1
theorem MX.t (h:MX bm n w W bs ts) (j:Nat) {t:TL} {cs:List Value} (hj:ts[j]? = some (t,cs)):TR (From (w.heap.size+1)) W t cs∧t.wf n:=h.tr _ (List.mem_of_getElem? hj)
theorem upd8 (W:World) (b:Nat) (v0 v1 v2 v3 v4 v5 v6 v7:Value):Upd (One b) (One b) W ((((((((W.setCell ⟨b,0,none⟩ v0).setCell ⟨b,1,none⟩ v1).setCell ⟨b,2,none⟩ v2).setCell ⟨b,3,none⟩ v3).setCell ⟨b,4,none⟩ v4).setCell ⟨b,5,none⟩ v5).setCell ⟨b,6,none⟩ v6).setCell ⟨b,7,none⟩ v7) :=
 (((((((upd_cell1 _).trans (upd_cell1 _)).trans (upd_cell1 _)).trans (upd_cell1 _)).trans (upd_cell1 _)).trans (upd_cell1 _)).trans (upd_cell1 _)).trans (upd_cell1 _)
theorem blk8 {b t:Nat} (h:Blk W b t z8) (v0 v1 v2 v3 v4 v5 v6 v7:Value):Blk ((((((((W.setCell ⟨b,0,none⟩ v0).setCell ⟨b,1,none⟩ v1).setCell ⟨b,2,none⟩ v2).setCell ⟨b,3,none⟩ v3).setCell ⟨b,4,none⟩ v4).setCell ⟨b,5,none⟩ v5).setCell ⟨b,6,none⟩ v6).setCell ⟨b,7,none⟩ v7) b t [v0,v1,v2,v3,v4,v5,v6,v7] :=
 (((((((h.set 0 v0).set 1 v1).set 2 v2).set 3 v3).set 4 v4).set 5 v5).set 6 v6).set 7 v7
theorem far8 {b g i:Nat} {u:Value} (hne:b≠g) (h:W.cell? ⟨g,i,none⟩=some u) (v0 v1 v2 v3 v4 v5 v6 v7:Value):((((((((W.setCell ⟨b,0,none⟩ v0).setCell ⟨b,1,none⟩ v1).setCell ⟨b,2,none⟩ v2).setCell ⟨b,3,none⟩ v3).setCell ⟨b,4,none⟩ v4).setCell ⟨b,5,none⟩ v5).setCell ⟨b,6,none⟩ v6).setCell ⟨b,7,none⟩ v7).cell? ⟨g,i,none⟩=some u :=
 (upd8 W b v0 v1 v2 v3 v4 v5 v6 v7).cell h (λ e=>hne (Eq.symm e))
theorem MX.fin (h:MX bm n w W bs ts) {H:TH} {a:TL} {cs:List Value} (ht:TR (From (w.heap.size+1)) W (.cons H a .nil) cs) (hw:(TL.cons H a .nil).wf n) (hu:Upd (One w.heap.size) (One w.heap.size) W W'):MakeR bm n w (.returned (.agg cs.toArray)) W':=by
 refine ⟨H,a,cs,rfl,(ht.upd hu λ b hb hb2 => ?_).mono λ b hb => ?_,hw,?_,?_⟩
 ·have h1:w.heap.size+1≤b:=hb
  have h2:b=w.heap.size:=hb2
  omega
 ·have h1:w.heap.size+1≤b:=hb
  show w.heap.size≤b
  omega
 ·obtain ⟨p,m,c,l,i,h1,h2,h3⟩:=h.maker.ex
  have:=h.lt
  exact ⟨p,m,c,l,i,hu.blk h1 (λ e=>by have e':bm=w.heap.size:=e;omega),h2.upd hu (λ b hb hb2=>by have h2:b=w.heap.size:=hb2;omega),h3⟩
 ·refine ⟨hu.os.trans h.up.os,hu.tape.trans h.up.tape,hu.output.trans h.up.output,Nat.le_trans h.up.size hu.size,λ k hk hn => ?_,λ k hk => .inl hk⟩
  rw [hu.block k (Nat.lt_of_lt_of_le hk h.up.size) (λ e=>by have e':k=w.heap.size:=e;omega)]
  exact h.up.block k hk hn
theorem MakeR.open {e:Ending} (h:MakeR bm n w e W):∃ (H:TH) (a:TL) (o:Int) (g:Bool) (vp:Option Addr) (vn vc:Nat) (ap:Option Addr) (an ac:Nat),e = .returned (.agg #[.int .i64 (H.k:Nat),.int .i64 o,.int .i64 (H.w:Nat),.int .i64 (H.s:Nat),.int .i64 (H.lo:Nat),.bool g,.slice vp vn vc,.slice ap an ac]) ∧
  TR (From w.heap.size) W (.cons H a .nil) (tcells H o g (.slice vp vn vc) (.slice ap an ac))∧(TL.cons H a .nil).wf n∧Mk bm W∧Upd (One bm) (One bm) w W:=by
 obtain ⟨H,a,cs,rfl,ht,hw,hm,hu⟩:=h
 obtain ⟨op,sg,val,vl,av,ac,rfl,hv,_,hr,_⟩:=tr_one ht
 obtain ⟨pv,cv,rfl,_⟩:=hv.form
 obtain ⟨pa,ca,rfl,_⟩:=hr.form
 exact ⟨H,a,op,sg,pv,vl.length,cv,pa,a.len,ca,rfl,ht,hw,hm,hu⟩
theorem TOut.open {A:Nat→Prop} {e:Ending} (h:TOut A n w e W):∃ (H:TH) (a:TL) (o:Int) (g:Bool) (vp:Option Addr) (vn vc:Nat) (ap:Option Addr) (an ac:Nat),e = .returned (.agg #[.int .i64 (H.k:Nat),.int .i64 o,.int .i64 (H.w:Nat),.int .i64 (H.s:Nat),.int .i64 (H.lo:Nat),.bool g,.slice vp vn vc,.slice ap an ac]) ∧
  TR (λ b=>A b∨w.heap.size≤b) W (.cons H a .nil) (tcells H o g (.slice vp vn vc) (.slice ap an ac))∧(TL.cons H a .nil).wf n∧Below w.heap.size w W:=by
 obtain ⟨H,a,cs,rfl,ht,hw,hb⟩:=h
 obtain ⟨op,sg,val,vl,av,ac,rfl,hv,_,hr,_⟩:=tr_one ht
 obtain ⟨pv,cv,rfl,_⟩:=hv.form
 obtain ⟨pa,ca,rfl,_⟩:=hr.form
 exact ⟨H,a,op,sg,pv,vl.length,cv,pa,a.len,ca,rfl,ht,hw,hb⟩
theorem MX.wide (h:MX bm n w W bs ts) (hb:Below W.heap.size W W') {t:TL} {cs:List Value} (ht:TR (λ b=>From (w.heap.size+1) b∨W.heap.size≤b) W' t cs) (hw:t.wf n):MX bm n w W' bs ((t,cs)::ts):=by
 have h':=h.below hb
 refine ⟨h'.maker,h'.up,h'.lt,h'.big,h'.blk,λ x hx => ?_⟩
 rcases List.mem_cons.1 hx with rfl | hx
 ·exact ⟨ht.mono λ b hb=>by
   have:=h.big
   rcases hb with hb | hb
   ·exact hb
   ·show w.heap.size+1≤b;omega,hw⟩
 ·exact h'.tr x hx
theorem MX.over (h:MX bm n w W bs ts) {t:TL} {cs:List Value} (ht:TR (From (w.heap.size+1)) W t cs) {g:Nat} (hg:Blk W g 76 cs) (hge:w.heap.size<g) (H:TH) (op:Int) (sg:Bool):TR (From (w.heap.size+1)) W (.cons H t .nil) (tcells H op sg (.slice none 0 0) (.slice (some ⟨g,0,none⟩) t.len t.len)) :=
 tr_over ht hg (show w.heap.size+1≤g from hge) H op sg
end
theorem ca {W:World} {a:Addr} {u:Value} (h:W.cell? a=some u) (o:Obj):(W.alloc o).cell? a=some u:=((Below.new W o).cell (World.block_lt_of_cell? _ _ h)).trans h
theorem an {a b:Prop} (x:a) (y:b):a∧b:=⟨x,y⟩
theorem bc {W W':World} (hb:Below W.heap.size W W') {a:Addr} {u:Value} (h:W.cell? a=some u):W'.cell? a=some u:=(hb.cell (World.block_lt_of_cell? _ _ h)).trans h
theorem cells8 {W:World} {b t:Nat} {v0 v1 v2 v3 v4 v5 v6 v7:Value} (h:Blk W b t [v0,v1,v2,v3,v4,v5,v6,v7]):W.cell? ⟨b,0,none⟩=some v0∧W.cell? ⟨b,1,none⟩=some v1∧W.cell? ⟨b,2,none⟩=some v2∧W.cell? ⟨b,3,none⟩=some v3∧W.cell? ⟨b,4,none⟩=some v4∧W.cell? ⟨b,5,none⟩=some v5∧W.cell? ⟨b,6,none⟩=some v6∧W.cell? ⟨b,7,none⟩=some v7:=⟨h.cell rfl,h.cell rfl,h.cell rfl,h.cell rfl,h.cell rfl,h.cell rfl,h.cell rfl,h.cell rfl⟩
theorem frz8 {W:World} {b t:Nat} {l:List Value} (h:Blk W b t l):W.frozen? ⟨b,0,none⟩=false∧W.frozen? ⟨b,1,none⟩=false∧W.frozen? ⟨b,2,none⟩=false∧W.frozen? ⟨b,3,none⟩=false∧W.frozen? ⟨b,4,none⟩=false∧W.frozen? ⟨b,5,none⟩=false∧W.frozen? ⟨b,6,none⟩=false∧W.frozen? ⟨b,7,none⟩=false:=⟨h.frz 0,h.frz 1,h.frz 2,h.frz 3,h.frz 4,h.frz 5,h.frz 6,h.frz 7⟩
set_option maxRecDepth 100000 in
set_option maxHeartbeats 16000000 in
theorem mexpr_step {bm n:Nat} {w:World} {p:Option Addr} {c:Nat} {l:List Sg} (deep:Nat) (hd:1≤deep) (hdb:deep≤1000) (hS:Sgs l) (hn:l.length≤n) (hn8:n≤8)
  (hword:l.length=1∨MakeC bm n (.slice p 1 c) (l.take 1) 1) (hih:deep=1∨MakeC bm n (.slice p l.length c) l (deep-1))
  (m:Nat) (hm:1≤m) (hm8:m≤8) (hk:Mk bm w) (hs:ROA (λ b=>b≠bm) w (.slice p l.length c) 4 l.length (sigCells l)) :
  Calls Try.prog 12 #[.pointer (some ⟨bm,0,none⟩),.slice p l.length c,.int .i64 m,.int .i64 deep] w (MakeR bm n w):=by
 obtain ⟨N,hN⟩:∃ N,l.length=N:=⟨_,rfl⟩
 have hlc:=hs.cap
 obtain ⟨b,o,rfl⟩:=hs.sl (sigCells_at (List.getElem?_eq_getElem (show 0<l.length from hS.pos))).1
 have HM_w0:Hid (MX bm n w (w.alloc (.cells #[.int .i64 0,.int .i64 0,.int .i64 0,.int .i64 0,.int .i64 0,.bool false,.slice none 0 0,.slice none 0 0] 76)) [(w.heap.size,76,z8)] []):=Lib.hid (MX.start hk _ _)
 have H:=Lib.hid (And.intro hS (And.intro hn (And.intro hn8 (And.intro hm (And.intro hm8 (And.intro hd (And.intro hdb hN)))))))
 rw [hN]
 have HS:Hid ((∀ W,Upd (One bm) (One bm) w W→ROA (λ b=>b≠bm) W (.slice (some ⟨b,o,none⟩) N c) 4 l.length (sigCells l))∧(∀ W,Upd (One bm) (One bm) w W→ROA (λ b=>b≠bm) W (.slice (some ⟨b,o,none⟩) 1 c) 4 (l.take 1).length (sigCells (l.take 1)))) :=
  Lib.hid ⟨λ W hu=>by rw [←hN];exact hs.upd hu λ b hb=>hb,λ W hu=>(sig_take hs 1 hS.pos).upd hu λ b hb=>hb⟩
 rw [hN] at hih hlc
 have hc1:(1:Int)≤(c:Int):=by have:=hS.pos;omega
 obtain ⟨d,hd1⟩:∃ d,deep-1=d:=⟨_,rfl⟩
 have hdw:IntKind.i64.wrap ((deep:Int)-1)=(d:Int):=by rw [i64_of (by omega)];omega
 rw [hd1] at hih
 have hdi:decide (deep≤1)=decide (deep≤1):=rfl
 have HW:=Lib.hid (And.intro hword hih)
 clear hS hn hn8 hword hih hm hm8 hk hs hlc hd hdb hN hdi hd1
 go_enter Try.func12,Try.ntmps12
 go_upto_region 1 with fail
 generalize hW0:w.alloc (.cells #[.int .i64 0,.int .i64 0,.int .i64 0,.int .i64 0,.int .i64 0,.bool false,.slice none 0 0,.slice none 0 0] 76)=w0 at *
 clear hW0
 go_wp2_with fail
 refine (next_any HM_w0.out.maker 12 (by omega) (by omega)).mono ?_;rintro e w1 ⟨k,hk12,rfl,hk1,hu1⟩
 have HM_w1:=Lib.hid (HM_w0.out.call hk1 hu1)
 clear hk1 hu1 HM_w0
 go_upto_if 26 with fail
 go_cut [9] from 27 (λ v9 wx=>∃ K:Nat,v9 = .int .i64 K∧K<12∧(deep=1→K<5)∧wx=w1)
 case first =>
  by_cases hd1:deep≤1
  ·have hd2:(deep:Int)≤1:=by omega
   have hq:(k:Int).tmod 5=((k % 5:Nat):Int):=by rw [Int.tmod_eq_emod_of_nonneg (by omega)];omega
   have hq2:IntKind.i64.wrap ((k:Int) % 5)=((k % 5:Nat):Int):=by rw [i64_of (by omega)];omega
   have HK:=Lib.hid (And.intro (show k % 5<12 by omega) (show k % 5<5 by omega))
   clear hk12 hd1
   go_wp2_with fail
   go_meet
   exact ⟨k % 5,by go_num,HK.out.1,λ _=>HK.out.2,rfl⟩
  ·have hd2:¬(deep:Int)≤1:=by omega
   have HK:=Lib.hid (And.intro hk12 (show deep≠1 by omega))
   clear hk12 hd1
   go_wp2_with fail
   go_meet
   exact ⟨k,rfl,HK.out.1,λ h=>absurd h HK.out.2,rfl⟩
 case rest =>
  obtain ⟨K,rfl,hK,hKd,rfl⟩:=hcut
  have HKd:=Lib.hid hKd
  clear hk12 hKd
  have hK0:K=0∨K=1∨K=2∨K=3∨K=4∨K=5∨K=6∨K=7∨K=8∨K=9∨K=10∨K=11:=by omega
  clear hK
  rcases hK0 with rfl | hK0
  ·
   go_wp2_with fail
   refine (next_any HM_w1.out.maker 16 (by omega) (by omega)).mono ?_;rintro e w11 ⟨r,hlr,rfl,hk11,hu11⟩
   have HM_w11:=Lib.hid (HM_w1.out.call hk11 hu11);clear hk11 hu11 HM_w1
   have hr64:IntKind.u64.wrap (r:Int)=(r:Int):=IntWalk.u64_in _ (by omega)
   go_wp2_with fail
   have HM_w12:=Lib.hid (HM_w11.out.lay 93 [.int .u64 (r:Nat)])
   have hge_u:=Lib.hid (HM_w11.out.big)
   generalize hW12:w11.alloc (.cells #[.int .u64 (r:Nat)] 93)=w12 at *
   clear hW12 HM_w11
   refine (new_any (HM_w12.out.at 0 rfl) m H.out.2.2.2.1 (by have:=H.out.2.2.2.2.1;omega)).mono ?_;rintro e w2 ⟨v,vl,rfl,hvl,hv,hb2⟩
   have HM_w2:=Lib.hid (HM_w12.out.below hb2);have HV:=Lib.hid (And.intro hv hvl)
   have HGe:=Lib.hid (Nat.lt_of_lt_of_le HM_w12.out.big (Nat.le_refl _))
   clear hb2 hv hvl HM_w12
   obtain ⟨pv,cv,rfl,_⟩:=HV.out.1.form
   obtain ⟨r0,r1,r2,r3,r4,r5,r6,r7⟩:=cells8 (HM_w2.out.at 1 rfl);obtain ⟨f0,f1,f2,f3,f4,f5,f6,f7⟩:=frz8 (HM_w2.out.at 1 rfl)
   go_wp2_with fail
   have e0:=(blk8 (HM_w2.out.at 1 rfl) (.int .i64 1) (.int .i64 0) (.int .i64 (m:Nat)) (.int .i64 0) (.int .i64 0) (.bool false) (.slice pv m cv) (.slice none 0 0)).cell (i:=0) rfl
   have e1:=(blk8 (HM_w2.out.at 1 rfl) (.int .i64 1) (.int .i64 0) (.int .i64 (m:Nat)) (.int .i64 0) (.int .i64 0) (.bool false) (.slice pv m cv) (.slice none 0 0)).cell (i:=1) rfl
   have e2:=(blk8 (HM_w2.out.at 1 rfl) (.int .i64 1) (.int .i64 0) (.int .i64 (m:Nat)) (.int .i64 0) (.int .i64 0) (.bool false) (.slice pv m cv) (.slice none 0 0)).cell (i:=2) rfl
   have e3:=(blk8 (HM_w2.out.at 1 rfl) (.int .i64 1) (.int .i64 0) (.int .i64 (m:Nat)) (.int .i64 0) (.int .i64 0) (.bool false) (.slice pv m cv) (.slice none 0 0)).cell (i:=3) rfl
   have e4:=(blk8 (HM_w2.out.at 1 rfl) (.int .i64 1) (.int .i64 0) (.int .i64 (m:Nat)) (.int .i64 0) (.int .i64 0) (.bool false) (.slice pv m cv) (.slice none 0 0)).cell (i:=4) rfl
   have e5:=(blk8 (HM_w2.out.at 1 rfl) (.int .i64 1) (.int .i64 0) (.int .i64 (m:Nat)) (.int .i64 0) (.int .i64 0) (.bool false) (.slice pv m cv) (.slice none 0 0)).cell (i:=5) rfl
   have e6:=(blk8 (HM_w2.out.at 1 rfl) (.int .i64 1) (.int .i64 0) (.int .i64 (m:Nat)) (.int .i64 0) (.int .i64 0) (.bool false) (.slice pv m cv) (.slice none 0 0)).cell (i:=6) rfl
   have e7:=(blk8 (HM_w2.out.at 1 rfl) (.int .i64 1) (.int .i64 0) (.int .i64 (m:Nat)) (.int .i64 0) (.int .i64 0) (.bool false) (.slice pv m cv) (.slice none 0 0)).cell (i:=7) rfl
   clear r0 r1 r2 r3 r4 r5 r6 r7 f0 f1 f2 f3 f4 f5 f6 f7
   go_wp2_with fail
   exact bodyPost_ret (v := .agg #[.int .i64 1,.int .i64 0,.int .i64 (m:Nat),.int .i64 0,.int .i64 0,.bool false,.slice pv m cv,.slice none 0 0]) (by simp [results,Try.results12,go_sem,e0,e1,e2,e3,e4,e5,e6,e7]) rfl (HM_w2.out.fin (cs := [.int .i64 1,.int .i64 0,.int .i64 (m:Nat),.int .i64 0,.int .i64 0,.bool false,.slice pv m cv,.slice none 0 0]) (tr_mk (h:=⟨1,m,0,0⟩) (a := .nil) (vl:=vl) (by rw [HV.out.2];exact HV.out.1.mono λ b hb=>by have:=HGe.out;have h2:_≤b:=hb;show w.heap.size+1≤b;omega) (by rw [HV.out.2];have:=H.out.2.2.2.2.1;omega) ROA.nil rfl) (⟨λ h=>(by cases h),λ h=>(by simp at h),by simp,by have:=H.out.2.2.2.2.1;simp;omega,by simp,by simp,by simp [TL.len],trivial,trivial⟩) (upd8 _ _ _ _ _ _ _ _ _ _))
  rcases hK0 with rfl | hK0
  ·
   go_wp2_with fail
   refine (next_any HM_w1.out.maker N (by have:=H.out.1.pos;have:=H.out.2.2.2.2.2.2.2;omega) (by have:=H.out.1.le;have:=H.out.2.2.2.2.2.2.2;omega)).mono ?_;rintro e w13 ⟨i,hli,rfl,hk13,hu13⟩
   have HM_w13:=Lib.hid (HM_w1.out.call hk13 hu13);clear hk13 hu13 HM_w1
   obtain ⟨⟨xn,xw,xg,xq⟩,hx⟩:∃ x,l[i]? = some x:=⟨_,List.getElem?_eq_getElem (by have:=H.out.2.2.2.2.2.2.2;omega)⟩
   have hxw:=H.out.1.w _ (List.mem_of_getElem? hx)
   have hro:=(HS.out.1 _ HM_w13.out.up).ro
   have s0:=hro.cell (sigCells_at hx).1;have s1:=hro.cell (sigCells_at hx).2.1;have s2:=hro.cell (sigCells_at hx).2.2.1;have s3:=hro.cell (sigCells_at hx).2.2.2
   dsimp only at s0 s1 s2 s3 hxw
   rw [←Nat.add_assoc] at s1 s2 s3
   have hi0:(0:Int)≤i:=by omega
   have hiN:(i:Int)<N:=by omega
   have hin:i<n:=by have:=H.out.2.1;have:=H.out.2.2.2.2.2.2.2;omega
   have HX:=Lib.hid (And.intro hx (And.intro hxw hin))
   by_cases hq:0<xq
   ·
    have hqi:(0:Int)<(xq:Int):=by omega
    have hwd:=HW.out.1.resolve_left (λ h1=>one_no H.out.1 HX.out.1 h1 hq)
    clear hx hxw hro hq hin
    have HWd:=Lib.hid hwd;clear hwd
    go_wp2_with fail
    have HM_w14:=Lib.hid (HM_w13.out.lay 69 [.string xn,.int .i64 (xw:Nat),.bool xg,.int .i64 (xq:Nat)])
    have hge_x:=Lib.hid (HM_w13.out.big)
    generalize hW14:w13.alloc (.cells #[.string xn,.int .i64 (xw:Nat),.bool xg,.int .i64 (xq:Nat)] 69)=w14 at *
    clear hW14 HM_w13
    refine (HWd.out w14 2 (by omega) (by omega) HM_w14.out.maker (HS.out.2 _ HM_w14.out.up)).mono ?_;intro e w15 hR;obtain ⟨⟨tak,taw,tas,tal⟩,taa,tao,tag,tavp,tavn,tavc,taap,taan,taac,rfl,htta,hwta,hk15,hu15⟩:=hR.open;clear hR;have HM_w15:=Lib.hid (HM_w14.out.tree hu15 hk15 htta hwta);clear hk15 hu15 htta hwta
    clear HM_w14
    go_upto_region 17 with fail
    have HM_w16:=Lib.hid (HM_w15.out.lay 76 [.int .i64 (tak:Nat),.int .i64 tao,.int .i64 (taw:Nat),.int .i64 (tas:Nat),.int .i64 (tal:Nat),.bool tag,.slice tavp tavn tavc,.slice taap taan taac])
    have hge_d:=Lib.hid (HM_w15.out.big)
    generalize hW16:w15.alloc (.cells #[.int .i64 (tak:Nat),.int .i64 tao,.int .i64 (taw:Nat),.int .i64 (tas:Nat),.int .i64 (tal:Nat),.bool tag,.slice tavp tavn tavc,.slice taap taan taac] 76)=w16 at *
    clear hW16 HM_w15
    have x0:=(HM_w16.out.at 1 rfl).cell (i:=0) rfl
    have x1:=(HM_w16.out.at 1 rfl).cell (i:=1) rfl
    have x2:=(HM_w16.out.at 1 rfl).cell (i:=2) rfl
    have x3:=(HM_w16.out.at 1 rfl).cell (i:=3) rfl
    have d0:=(HM_w16.out.at 0 rfl).cell (i:=0) rfl
    have d1:=(HM_w16.out.at 0 rfl).cell (i:=1) rfl
    have d2:=(HM_w16.out.at 0 rfl).cell (i:=2) rfl
    have d3:=(HM_w16.out.at 0 rfl).cell (i:=3) rfl
    have d4:=(HM_w16.out.at 0 rfl).cell (i:=4) rfl
    have d5:=(HM_w16.out.at 0 rfl).cell (i:=5) rfl
    have d6:=(HM_w16.out.at 0 rfl).cell (i:=6) rfl
    have d7:=(HM_w16.out.at 0 rfl).cell (i:=7) rfl
    go_wp2_with fail
    clear x0 x1 x2 x3 d0 d1 d2 d3 d4 d5 d6 d7
    have HM_w17:=Lib.hid (HM_w16.out.lay 76 [.int .i64 (tak:Nat),.int .i64 tao,.int .i64 (taw:Nat),.int .i64 (tas:Nat),.int .i64 (tal:Nat),.bool tag,.slice tavp tavn tavc,.slice taap taan taac])
    have hge_e:=Lib.hid (HM_w16.out.big)
    generalize hW17:w16.alloc (.cells #[.int .i64 (tak:Nat),.int .i64 tao,.int .i64 (taw:Nat),.int .i64 (tas:Nat),.int .i64 (tal:Nat),.bool tag,.slice tavp tavn tavc,.slice taap taan taac] 76)=w17 at *
    clear hW17 HM_w16
    have hT18:TR (From (w.heap.size+1)) w17 _ [.int .i64 3,.int .i64 0,.int .i64 (xw:Nat),.int .i64 (i:Nat),.int .i64 0,.bool false,.slice none 0 0,.slice (some ⟨w16.heap.size,0,none⟩) 1 1]:=HM_w17.out.over (HM_w17.out.t 0 rfl).1 (HM_w17.out.at 0 rfl) hge_e.out ⟨3,xw,i,0⟩ 0 false
    refine (wide_any (n:=n) hT18 ⟨λ h=>(by simp at h),λ _=>HX.out.2.2,by simp,by have:=HX.out.2.1;simp;omega,by have:=HX.out.2.2;have:=H.out.2.2.1;simp;omega,by simp,by simp [TL.len],(HM_w17.out.t 0 rfl).2,trivial⟩ m (by have:=H.out.2.2.2.2.1;omega)).mono ?_;intro e w18 hR;obtain ⟨⟨tzk,tzw,tzs,tzl⟩,tza,tzo,tzg,tzvp,tzvn,tzvc,tzap,tzan,tzac,rfl,httz,hwtz,hb18⟩:=hR.open;clear hR hT18
    have HM_w18:=Lib.hid (HM_w17.out.wide hb18 httz hwtz);clear hb18 httz hwtz HM_w17
    obtain ⟨r0,r1,r2,r3,r4,r5,r6,r7⟩:=cells8 (HM_w18.out.at 3 rfl);obtain ⟨f0,f1,f2,f3,f4,f5,f6,f7⟩:=frz8 (HM_w18.out.at 3 rfl)
    go_wp2_with fail
    have e0:=(blk8 (HM_w18.out.at 3 rfl) (.int .i64 (tzk:Nat)) (.int .i64 tzo) (.int .i64 (tzw:Nat)) (.int .i64 (tzs:Nat)) (.int .i64 (tzl:Nat)) (.bool tzg) (.slice tzvp tzvn tzvc) (.slice tzap tzan tzac)).cell (i:=0) rfl
    have e1:=(blk8 (HM_w18.out.at 3 rfl) (.int .i64 (tzk:Nat)) (.int .i64 tzo) (.int .i64 (tzw:Nat)) (.int .i64 (tzs:Nat)) (.int .i64 (tzl:Nat)) (.bool tzg) (.slice tzvp tzvn tzvc) (.slice tzap tzan tzac)).cell (i:=1) rfl
    have e2:=(blk8 (HM_w18.out.at 3 rfl) (.int .i64 (tzk:Nat)) (.int .i64 tzo) (.int .i64 (tzw:Nat)) (.int .i64 (tzs:Nat)) (.int .i64 (tzl:Nat)) (.bool tzg) (.slice tzvp tzvn tzvc) (.slice tzap tzan tzac)).cell (i:=2) rfl
    have e3:=(blk8 (HM_w18.out.at 3 rfl) (.int .i64 (tzk:Nat)) (.int .i64 tzo) (.int .i64 (tzw:Nat)) (.int .i64 (tzs:Nat)) (.int .i64 (tzl:Nat)) (.bool tzg) (.slice tzvp tzvn tzvc) (.slice tzap tzan tzac)).cell (i:=3) rfl
    have e4:=(blk8 (HM_w18.out.at 3 rfl) (.int .i64 (tzk:Nat)) (.int .i64 tzo) (.int .i64 (tzw:Nat)) (.int .i64 (tzs:Nat)) (.int .i64 (tzl:Nat)) (.bool tzg) (.slice tzvp tzvn tzvc) (.slice tzap tzan tzac)).cell (i:=4) rfl
    have e5:=(blk8 (HM_w18.out.at 3 rfl) (.int .i64 (tzk:Nat)) (.int .i64 tzo) (.int .i64 (tzw:Nat)) (.int .i64 (tzs:Nat)) (.int .i64 (tzl:Nat)) (.bool tzg) (.slice tzvp tzvn tzvc) (.slice tzap tzan tzac)).cell (i:=5) rfl
    have e6:=(blk8 (HM_w18.out.at 3 rfl) (.int .i64 (tzk:Nat)) (.int .i64 tzo) (.int .i64 (tzw:Nat)) (.int .i64 (tzs:Nat)) (.int .i64 (tzl:Nat)) (.bool tzg) (.slice tzvp tzvn tzvc) (.slice tzap tzan tzac)).cell (i:=6) rfl
    have e7:=(blk8 (HM_w18.out.at 3 rfl) (.int .i64 (tzk:Nat)) (.int .i64 tzo) (.int .i64 (tzw:Nat)) (.int .i64 (tzs:Nat)) (.int .i64 (tzl:Nat)) (.bool tzg) (.slice tzvp tzvn tzvc) (.slice tzap tzan tzac)).cell (i:=7) rfl
    clear r0 r1 r2 r3 r4 r5 r6 r7 f0 f1 f2 f3 f4 f5 f6 f7
    go_wp2_with fail
    exact bodyPost_ret (v := .agg #[.int .i64 (tzk:Nat),.int .i64 tzo,.int .i64 (tzw:Nat),.int .i64 (tzs:Nat),.int .i64 (tzl:Nat),.bool tzg,.slice tzvp tzvn tzvc,.slice tzap tzan tzac]) (by simp [results,Try.results12,go_sem,e0,e1,e2,e3,e4,e5,e6,e7]) rfl (HM_w18.out.fin (cs := [.int .i64 (tzk:Nat),.int .i64 tzo,.int .i64 (tzw:Nat),.int .i64 (tzs:Nat),.int .i64 (tzl:Nat),.bool tzg,.slice tzvp tzvn tzvc,.slice tzap tzan tzac]) ((HM_w18.out.t 0 rfl).1) ((HM_w18.out.t 0 rfl).2) (upd8 _ _ _ _ _ _ _ _ _ _))
   ·
    have hqi:¬(0:Int)<(xq:Int):=by omega
    clear hx hxw hro hq hin
    go_wp2_with fail
    have HM_w19:=Lib.hid (HM_w13.out.lay 69 [.string xn,.int .i64 (xw:Nat),.bool xg,.int .i64 (xq:Nat)])
    have hge_x:=Lib.hid (HM_w13.out.big)
    generalize hW19:w13.alloc (.cells #[.string xn,.int .i64 (xw:Nat),.bool xg,.int .i64 (xq:Nat)] 69)=w19 at *
    clear hW19 HM_w13
    have HM_w20:=Lib.hid (HM_w19.out.lay 76 [.int .i64 2,.int .i64 0,.int .i64 (xw:Nat),.int .i64 (i:Nat),.int .i64 0,.bool false,.slice none 0 0,.slice none 0 0])
    have hge_d:=Lib.hid (HM_w19.out.big)
    generalize hW20:w19.alloc (.cells #[.int .i64 2,.int .i64 0,.int .i64 (xw:Nat),.int .i64 (i:Nat),.int .i64 0,.bool false,.slice none 0 0,.slice none 0 0] 76)=w20 at *
    clear hW20 HM_w19
    have hT21:TR (From (w.heap.size+1)) w20 _ [.int .i64 2,.int .i64 0,.int .i64 (xw:Nat),.int .i64 (i:Nat),.int .i64 0,.bool false,.slice none 0 0,.slice none 0 0]:=tr_mk (h:=⟨2,xw,i,0⟩) (a := .nil) (vl := []) ROA.nil (by simp) ROA.nil rfl
    refine (wide_any (n:=n) hT21 ⟨λ h=>(by simp at h),λ _=>HX.out.2.2,by simp,by have:=HX.out.2.1;simp;omega,by have:=HX.out.2.2;have:=H.out.2.2.1;simp;omega,by simp,by simp [TL.len],trivial,trivial⟩ m (by have:=H.out.2.2.2.2.1;omega)).mono ?_;intro e w21 hR;obtain ⟨⟨tzk,tzw,tzs,tzl⟩,tza,tzo,tzg,tzvp,tzvn,tzvc,tzap,tzan,tzac,rfl,httz,hwtz,hb21⟩:=hR.open;clear hR hT21
    have HM_w21:=Lib.hid (HM_w20.out.wide hb21 httz hwtz);clear hb21 httz hwtz HM_w20
    obtain ⟨r0,r1,r2,r3,r4,r5,r6,r7⟩:=cells8 (HM_w21.out.at 2 rfl);obtain ⟨f0,f1,f2,f3,f4,f5,f6,f7⟩:=frz8 (HM_w21.out.at 2 rfl)
    go_wp2_with fail
    have e0:=(blk8 (HM_w21.out.at 2 rfl) (.int .i64 (tzk:Nat)) (.int .i64 tzo) (.int .i64 (tzw:Nat)) (.int .i64 (tzs:Nat)) (.int .i64 (tzl:Nat)) (.bool tzg) (.slice tzvp tzvn tzvc) (.slice tzap tzan tzac)).cell (i:=0) rfl
    have e1:=(blk8 (HM_w21.out.at 2 rfl) (.int .i64 (tzk:Nat)) (.int .i64 tzo) (.int .i64 (tzw:Nat)) (.int .i64 (tzs:Nat)) (.int .i64 (tzl:Nat)) (.bool tzg) (.slice tzvp tzvn tzvc) (.slice tzap tzan tzac)).cell (i:=1) rfl
    have e2:=(blk8 (HM_w21.out.at 2 rfl) (.int .i64 (tzk:Nat)) (.int .i64 tzo) (.int .i64 (tzw:Nat)) (.int .i64 (tzs:Nat)) (.int .i64 (tzl:Nat)) (.bool tzg) (.slice tzvp tzvn tzvc) (.slice tzap tzan tzac)).cell (i:=2) rfl
    have e3:=(blk8 (HM_w21.out.at 2 rfl) (.int .i64 (tzk:Nat)) (.int .i64 tzo) (.int .i64 (tzw:Nat)) (.int .i64 (tzs:Nat)) (.int .i64 (tzl:Nat)) (.bool tzg) (.slice tzvp tzvn tzvc) (.slice tzap tzan tzac)).cell (i:=3) rfl
    have e4:=(blk8 (HM_w21.out.at 2 rfl) (.int .i64 (tzk:Nat)) (.int .i64 tzo) (.int .i64 (tzw:Nat)) (.int .i64 (tzs:Nat)) (.int .i64 (tzl:Nat)) (.bool tzg) (.slice tzvp tzvn tzvc) (.slice tzap tzan tzac)).cell (i:=4) rfl
    have e5:=(blk8 (HM_w21.out.at 2 rfl) (.int .i64 (tzk:Nat)) (.int .i64 tzo) (.int .i64 (tzw:Nat)) (.int .i64 (tzs:Nat)) (.int .i64 (tzl:Nat)) (.bool tzg) (.slice tzvp tzvn tzvc) (.slice tzap tzan tzac)).cell (i:=5) rfl
    have e6:=(blk8 (HM_w21.out.at 2 rfl) (.int .i64 (tzk:Nat)) (.int .i64 tzo) (.int .i64 (tzw:Nat)) (.int .i64 (tzs:Nat)) (.int .i64 (tzl:Nat)) (.bool tzg) (.slice tzvp tzvn tzvc) (.slice tzap tzan tzac)).cell (i:=6) rfl
    have e7:=(blk8 (HM_w21.out.at 2 rfl) (.int .i64 (tzk:Nat)) (.int .i64 tzo) (.int .i64 (tzw:Nat)) (.int .i64 (tzs:Nat)) (.int .i64 (tzl:Nat)) (.bool tzg) (.slice tzvp tzvn tzvc) (.slice tzap tzan tzac)).cell (i:=7) rfl
    clear r0 r1 r2 r3 r4 r5 r6 r7 f0 f1 f2 f3 f4 f5 f6 f7
    go_wp2_with fail
    exact bodyPost_ret (v := .agg #[.int .i64 (tzk:Nat),.int .i64 tzo,.int .i64 (tzw:Nat),.int .i64 (tzs:Nat),.int .i64 (tzl:Nat),.bool tzg,.slice tzvp tzvn tzvc,.slice tzap tzan tzac]) (by simp [results,Try.results12,go_sem,e0,e1,e2,e3,e4,e5,e6,e7]) rfl (HM_w21.out.fin (cs := [.int .i64 (tzk:Nat),.int .i64 tzo,.int .i64 (tzw:Nat),.int .i64 (tzs:Nat),.int .i64 (tzl:Nat),.bool tzg,.slice tzvp tzvn tzvc,.slice tzap tzan tzac]) ((HM_w21.out.t 0 rfl).1) ((HM_w21.out.t 0 rfl).2) (upd8 _ _ _ _ _ _ _ _ _ _))
  rcases hK0 with rfl | hK0
  ·
   go_wp2_with fail
   refine (next_any HM_w1.out.maker N (by have:=H.out.1.pos;have:=H.out.2.2.2.2.2.2.2;omega) (by have:=H.out.1.le;have:=H.out.2.2.2.2.2.2.2;omega)).mono ?_;rintro e w22 ⟨i,hli,rfl,hk22,hu22⟩
   have HM_w22:=Lib.hid (HM_w1.out.call hk22 hu22);clear hk22 hu22 HM_w1
   obtain ⟨⟨xn,xw,xg,xq⟩,hx⟩:∃ x,l[i]? = some x:=⟨_,List.getElem?_eq_getElem (by have:=H.out.2.2.2.2.2.2.2;omega)⟩
   have hxw:=H.out.1.w _ (List.mem_of_getElem? hx)
   have hro:=(HS.out.1 _ HM_w22.out.up).ro
   have s0:=hro.cell (sigCells_at hx).1;have s1:=hro.cell (sigCells_at hx).2.1;have s2:=hro.cell (sigCells_at hx).2.2.1;have s3:=hro.cell (sigCells_at hx).2.2.2
   dsimp only at s0 s1 s2 s3 hxw
   rw [←Nat.add_assoc] at s1 s2 s3
   have hi0:(0:Int)≤i:=by omega
   have hiN:(i:Int)<N:=by omega
   have hin:i<n:=by have:=H.out.2.1;have:=H.out.2.2.2.2.2.2.2;omega
   have HX:=Lib.hid (And.intro hx (And.intro hxw hin))
   by_cases hq:0<xq
   ·
    have hqi:(0:Int)<(xq:Int):=by omega
    have hwd:=HW.out.1.resolve_left (λ h1=>one_no H.out.1 HX.out.1 h1 hq)
    clear hx hxw hro hq hin
    have HWd:=Lib.hid hwd;clear hwd
    go_wp2_with fail
    have HM_w23:=Lib.hid (HM_w22.out.lay 69 [.string xn,.int .i64 (xw:Nat),.bool xg,.int .i64 (xq:Nat)])
    have hge_x:=Lib.hid (HM_w22.out.big)
    generalize hW23:w22.alloc (.cells #[.string xn,.int .i64 (xw:Nat),.bool xg,.int .i64 (xq:Nat)] 69)=w23 at *
    clear hW23 HM_w22
    refine (HWd.out w23 2 (by omega) (by omega) HM_w23.out.maker (HS.out.2 _ HM_w23.out.up)).mono ?_;intro e w24 hR;obtain ⟨⟨tak,taw,tas,tal⟩,taa,tao,tag,tavp,tavn,tavc,taap,taan,taac,rfl,htta,hwta,hk24,hu24⟩:=hR.open;clear hR;have HM_w24:=Lib.hid (HM_w23.out.tree hu24 hk24 htta hwta);clear hk24 hu24 htta hwta
    clear HM_w23
    go_upto_region 17 with fail
    have HM_w25:=Lib.hid (HM_w24.out.lay 76 [.int .i64 (tak:Nat),.int .i64 tao,.int .i64 (taw:Nat),.int .i64 (tas:Nat),.int .i64 (tal:Nat),.bool tag,.slice tavp tavn tavc,.slice taap taan taac])
    have hge_d:=Lib.hid (HM_w24.out.big)
    generalize hW25:w24.alloc (.cells #[.int .i64 (tak:Nat),.int .i64 tao,.int .i64 (taw:Nat),.int .i64 (tas:Nat),.int .i64 (tal:Nat),.bool tag,.slice tavp tavn tavc,.slice taap taan taac] 76)=w25 at *
    clear hW25 HM_w24
    have x0:=(HM_w25.out.at 1 rfl).cell (i:=0) rfl
    have x1:=(HM_w25.out.at 1 rfl).cell (i:=1) rfl
    have x2:=(HM_w25.out.at 1 rfl).cell (i:=2) rfl
    have x3:=(HM_w25.out.at 1 rfl).cell (i:=3) rfl
    have d0:=(HM_w25.out.at 0 rfl).cell (i:=0) rfl
    have d1:=(HM_w25.out.at 0 rfl).cell (i:=1) rfl
    have d2:=(HM_w25.out.at 0 rfl).cell (i:=2) rfl
    have d3:=(HM_w25.out.at 0 rfl).cell (i:=3) rfl
    have d4:=(HM_w25.out.at 0 rfl).cell (i:=4) rfl
    have d5:=(HM_w25.out.at 0 rfl).cell (i:=5) rfl
    have d6:=(HM_w25.out.at 0 rfl).cell (i:=6) rfl
    have d7:=(HM_w25.out.at 0 rfl).cell (i:=7) rfl
    go_wp2_with fail
    clear x0 x1 x2 x3 d0 d1 d2 d3 d4 d5 d6 d7
    have HM_w26:=Lib.hid (HM_w25.out.lay 76 [.int .i64 (tak:Nat),.int .i64 tao,.int .i64 (taw:Nat),.int .i64 (tas:Nat),.int .i64 (tal:Nat),.bool tag,.slice tavp tavn tavc,.slice taap taan taac])
    have hge_e:=Lib.hid (HM_w25.out.big)
    generalize hW26:w25.alloc (.cells #[.int .i64 (tak:Nat),.int .i64 tao,.int .i64 (taw:Nat),.int .i64 (tas:Nat),.int .i64 (tal:Nat),.bool tag,.slice tavp tavn tavc,.slice taap taan taac] 76)=w26 at *
    clear hW26 HM_w25
    have hT27:TR (From (w.heap.size+1)) w26 _ [.int .i64 3,.int .i64 0,.int .i64 (xw:Nat),.int .i64 (i:Nat),.int .i64 0,.bool false,.slice none 0 0,.slice (some ⟨w25.heap.size,0,none⟩) 1 1]:=HM_w26.out.over (HM_w26.out.t 0 rfl).1 (HM_w26.out.at 0 rfl) hge_e.out ⟨3,xw,i,0⟩ 0 false
    refine (wide_any (n:=n) hT27 ⟨λ h=>(by simp at h),λ _=>HX.out.2.2,by simp,by have:=HX.out.2.1;simp;omega,by have:=HX.out.2.2;have:=H.out.2.2.1;simp;omega,by simp,by simp [TL.len],(HM_w26.out.t 0 rfl).2,trivial⟩ m (by have:=H.out.2.2.2.2.1;omega)).mono ?_;intro e w27 hR;obtain ⟨⟨tzk,tzw,tzs,tzl⟩,tza,tzo,tzg,tzvp,tzvn,tzvc,tzap,tzan,tzac,rfl,httz,hwtz,hb27⟩:=hR.open;clear hR hT27
    have HM_w27:=Lib.hid (HM_w26.out.wide hb27 httz hwtz);clear hb27 httz hwtz HM_w26
    obtain ⟨r0,r1,r2,r3,r4,r5,r6,r7⟩:=cells8 (HM_w27.out.at 3 rfl);obtain ⟨f0,f1,f2,f3,f4,f5,f6,f7⟩:=frz8 (HM_w27.out.at 3 rfl)
    go_wp2_with fail
    have e0:=(blk8 (HM_w27.out.at 3 rfl) (.int .i64 (tzk:Nat)) (.int .i64 tzo) (.int .i64 (tzw:Nat)) (.int .i64 (tzs:Nat)) (.int .i64 (tzl:Nat)) (.bool tzg) (.slice tzvp tzvn tzvc) (.slice tzap tzan tzac)).cell (i:=0) rfl
    have e1:=(blk8 (HM_w27.out.at 3 rfl) (.int .i64 (tzk:Nat)) (.int .i64 tzo) (.int .i64 (tzw:Nat)) (.int .i64 (tzs:Nat)) (.int .i64 (tzl:Nat)) (.bool tzg) (.slice tzvp tzvn tzvc) (.slice tzap tzan tzac)).cell (i:=1) rfl
    have e2:=(blk8 (HM_w27.out.at 3 rfl) (.int .i64 (tzk:Nat)) (.int .i64 tzo) (.int .i64 (tzw:Nat)) (.int .i64 (tzs:Nat)) (.int .i64 (tzl:Nat)) (.bool tzg) (.slice tzvp tzvn tzvc) (.slice tzap tzan tzac)).cell (i:=2) rfl
    have e3:=(blk8 (HM_w27.out.at 3 rfl) (.int .i64 (tzk:Nat)) (.int .i64 tzo) (.int .i64 (tzw:Nat)) (.int .i64 (tzs:Nat)) (.int .i64 (tzl:Nat)) (.bool tzg) (.slice tzvp tzvn tzvc) (.slice tzap tzan tzac)).cell (i:=3) rfl
    have e4:=(blk8 (HM_w27.out.at 3 rfl) (.int .i64 (tzk:Nat)) (.int .i64 tzo) (.int .i64 (tzw:Nat)) (.int .i64 (tzs:Nat)) (.int .i64 (tzl:Nat)) (.bool tzg) (.slice tzvp tzvn tzvc) (.slice tzap tzan tzac)).cell (i:=4) rfl
    have e5:=(blk8 (HM_w27.out.at 3 rfl) (.int .i64 (tzk:Nat)) (.int .i64 tzo) (.int .i64 (tzw:Nat)) (.int .i64 (tzs:Nat)) (.int .i64 (tzl:Nat)) (.bool tzg) (.slice tzvp tzvn tzvc) (.slice tzap tzan tzac)).cell (i:=5) rfl
    have e6:=(blk8 (HM_w27.out.at 3 rfl) (.int .i64 (tzk:Nat)) (.int .i64 tzo) (.int .i64 (tzw:Nat)) (.int .i64 (tzs:Nat)) (.int .i64 (tzl:Nat)) (.bool tzg) (.slice tzvp tzvn tzvc) (.slice tzap tzan tzac)).cell (i:=6) rfl
    have e7:=(blk8 (HM_w27.out.at 3 rfl) (.int .i64 (tzk:Nat)) (.int .i64 tzo) (.int .i64 (tzw:Nat)) (.int .i64 (tzs:Nat)) (.int .i64 (tzl:Nat)) (.bool tzg) (.slice tzvp tzvn tzvc) (.slice tzap tzan tzac)).cell (i:=7) rfl
    clear r0 r1 r2 r3 r4 r5 r6 r7 f0 f1 f2 f3 f4 f5 f6 f7
    go_wp2_with fail
    exact bodyPost_ret (v := .agg #[.int .i64 (tzk:Nat),.int .i64 tzo,.int .i64 (tzw:Nat),.int .i64 (tzs:Nat),.int .i64 (tzl:Nat),.bool tzg,.slice tzvp tzvn tzvc,.slice tzap tzan tzac]) (by simp [results,Try.results12,go_sem,e0,e1,e2,e3,e4,e5,e6,e7]) rfl (HM_w27.out.fin (cs := [.int .i64 (tzk:Nat),.int .i64 tzo,.int .i64 (tzw:Nat),.int .i64 (tzs:Nat),.int .i64 (tzl:Nat),.bool tzg,.slice tzvp tzvn tzvc,.slice tzap tzan tzac]) ((HM_w27.out.t 0 rfl).1) ((HM_w27.out.t 0 rfl).2) (upd8 _ _ _ _ _ _ _ _ _ _))
   ·
    have hqi:¬(0:Int)<(xq:Int):=by omega
    clear hx hxw hro hq hin
    go_wp2_with fail
    have HM_w28:=Lib.hid (HM_w22.out.lay 69 [.string xn,.int .i64 (xw:Nat),.bool xg,.int .i64 (xq:Nat)])
    have hge_x:=Lib.hid (HM_w22.out.big)
    generalize hW28:w22.alloc (.cells #[.string xn,.int .i64 (xw:Nat),.bool xg,.int .i64 (xq:Nat)] 69)=w28 at *
    clear hW28 HM_w22
    have HM_w29:=Lib.hid (HM_w28.out.lay 76 [.int .i64 2,.int .i64 0,.int .i64 (xw:Nat),.int .i64 (i:Nat),.int .i64 0,.bool false,.slice none 0 0,.slice none 0 0])
    have hge_d:=Lib.hid (HM_w28.out.big)
    generalize hW29:w28.alloc (.cells #[.int .i64 2,.int .i64 0,.int .i64 (xw:Nat),.int .i64 (i:Nat),.int .i64 0,.bool false,.slice none 0 0,.slice none 0 0] 76)=w29 at *
    clear hW29 HM_w28
    have hT30:TR (From (w.heap.size+1)) w29 _ [.int .i64 2,.int .i64 0,.int .i64 (xw:Nat),.int .i64 (i:Nat),.int .i64 0,.bool false,.slice none 0 0,.slice none 0 0]:=tr_mk (h:=⟨2,xw,i,0⟩) (a := .nil) (vl := []) ROA.nil (by simp) ROA.nil rfl
    refine (wide_any (n:=n) hT30 ⟨λ h=>(by simp at h),λ _=>HX.out.2.2,by simp,by have:=HX.out.2.1;simp;omega,by have:=HX.out.2.2;have:=H.out.2.2.1;simp;omega,by simp,by simp [TL.len],trivial,trivial⟩ m (by have:=H.out.2.2.2.2.1;omega)).mono ?_;intro e w30 hR;obtain ⟨⟨tzk,tzw,tzs,tzl⟩,tza,tzo,tzg,tzvp,tzvn,tzvc,tzap,tzan,tzac,rfl,httz,hwtz,hb30⟩:=hR.open;clear hR hT30
    have HM_w30:=Lib.hid (HM_w29.out.wide hb30 httz hwtz);clear hb30 httz hwtz HM_w29
    obtain ⟨r0,r1,r2,r3,r4,r5,r6,r7⟩:=cells8 (HM_w30.out.at 2 rfl);obtain ⟨f0,f1,f2,f3,f4,f5,f6,f7⟩:=frz8 (HM_w30.out.at 2 rfl)
    go_wp2_with fail
    have e0:=(blk8 (HM_w30.out.at 2 rfl) (.int .i64 (tzk:Nat)) (.int .i64 tzo) (.int .i64 (tzw:Nat)) (.int .i64 (tzs:Nat)) (.int .i64 (tzl:Nat)) (.bool tzg) (.slice tzvp tzvn tzvc) (.slice tzap tzan tzac)).cell (i:=0) rfl
    have e1:=(blk8 (HM_w30.out.at 2 rfl) (.int .i64 (tzk:Nat)) (.int .i64 tzo) (.int .i64 (tzw:Nat)) (.int .i64 (tzs:Nat)) (.int .i64 (tzl:Nat)) (.bool tzg) (.slice tzvp tzvn tzvc) (.slice tzap tzan tzac)).cell (i:=1) rfl
    have e2:=(blk8 (HM_w30.out.at 2 rfl) (.int .i64 (tzk:Nat)) (.int .i64 tzo) (.int .i64 (tzw:Nat)) (.int .i64 (tzs:Nat)) (.int .i64 (tzl:Nat)) (.bool tzg) (.slice tzvp tzvn tzvc) (.slice tzap tzan tzac)).cell (i:=2) rfl
    have e3:=(blk8 (HM_w30.out.at 2 rfl) (.int .i64 (tzk:Nat)) (.int .i64 tzo) (.int .i64 (tzw:Nat)) (.int .i64 (tzs:Nat)) (.int .i64 (tzl:Nat)) (.bool tzg) (.slice tzvp tzvn tzvc) (.slice tzap tzan tzac)).cell (i:=3) rfl
    have e4:=(blk8 (HM_w30.out.at 2 rfl) (.int .i64 (tzk:Nat)) (.int .i64 tzo) (.int .i64 (tzw:Nat)) (.int .i64 (tzs:Nat)) (.int .i64 (tzl:Nat)) (.bool tzg) (.slice tzvp tzvn tzvc) (.slice tzap tzan tzac)).cell (i:=4) rfl
    have e5:=(blk8 (HM_w30.out.at 2 rfl) (.int .i64 (tzk:Nat)) (.int .i64 tzo) (.int .i64 (tzw:Nat)) (.int .i64 (tzs:Nat)) (.int .i64 (tzl:Nat)) (.bool tzg) (.slice tzvp tzvn tzvc) (.slice tzap tzan tzac)).cell (i:=5) rfl
    have e6:=(blk8 (HM_w30.out.at 2 rfl) (.int .i64 (tzk:Nat)) (.int .i64 tzo) (.int .i64 (tzw:Nat)) (.int .i64 (tzs:Nat)) (.int .i64 (tzl:Nat)) (.bool tzg) (.slice tzvp tzvn tzvc) (.slice tzap tzan tzac)).cell (i:=6) rfl
    have e7:=(blk8 (HM_w30.out.at 2 rfl) (.int .i64 (tzk:Nat)) (.int .i64 tzo) (.int .i64 (tzw:Nat)) (.int .i64 (tzs:Nat)) (.int .i64 (tzl:Nat)) (.bool tzg) (.slice tzvp tzvn tzvc) (.slice tzap tzan tzac)).cell (i:=7) rfl
    clear r0 r1 r2 r3 r4 r5 r6 r7 f0 f1 f2 f3 f4 f5 f6 f7
    go_wp2_with fail
    exact bodyPost_ret (v := .agg #[.int .i64 (tzk:Nat),.int .i64 tzo,.int .i64 (tzw:Nat),.int .i64 (tzs:Nat),.int .i64 (tzl:Nat),.bool tzg,.slice tzvp tzvn tzvc,.slice tzap tzan tzac]) (by simp [results,Try.results12,go_sem,e0,e1,e2,e3,e4,e5,e6,e7]) rfl (HM_w30.out.fin (cs := [.int .i64 (tzk:Nat),.int .i64 tzo,.int .i64 (tzw:Nat),.int .i64 (tzs:Nat),.int .i64 (tzl:Nat),.bool tzg,.slice tzvp tzvn tzvc,.slice tzap tzan tzac]) ((HM_w30.out.t 0 rfl).1) ((HM_w30.out.t 0 rfl).2) (upd8 _ _ _ _ _ _ _ _ _ _))
  rcases hK0 with rfl | hK0
  ·
   go_wp2_with fail
   refine (next_any HM_w1.out.maker N (by have:=H.out.1.pos;have:=H.out.2.2.2.2.2.2.2;omega) (by have:=H.out.1.le;have:=H.out.2.2.2.2.2.2.2;omega)).mono ?_;rintro e w31 ⟨i,hli,rfl,hk31,hu31⟩
   have HM_w31:=Lib.hid (HM_w1.out.call hk31 hu31);clear hk31 hu31 HM_w1
   obtain ⟨⟨xn,xw,xg,xq⟩,hx⟩:∃ x,l[i]? = some x:=⟨_,List.getElem?_eq_getElem (by have:=H.out.2.2.2.2.2.2.2;omega)⟩
   have hxw:=H.out.1.w _ (List.mem_of_getElem? hx)
   have hro:=(HS.out.1 _ HM_w31.out.up).ro
   have s0:=hro.cell (sigCells_at hx).1;have s1:=hro.cell (sigCells_at hx).2.1;have s2:=hro.cell (sigCells_at hx).2.2.1;have s3:=hro.cell (sigCells_at hx).2.2.2
   dsimp only at s0 s1 s2 s3 hxw
   rw [←Nat.add_assoc] at s1 s2 s3
   have hi0:(0:Int)≤i:=by omega
   have hiN:(i:Int)<N:=by omega
   have hin:i<n:=by have:=H.out.2.1;have:=H.out.2.2.2.2.2.2.2;omega
   have HX:=Lib.hid (And.intro hx (And.intro hxw hin))
   by_cases hq:0<xq
   ·
    have hqi:(0:Int)<(xq:Int):=by omega
    have hwd:=HW.out.1.resolve_left (λ h1=>one_no H.out.1 HX.out.1 h1 hq)
    clear hx hxw hro hq hin
    have HWd:=Lib.hid hwd;clear hwd
    go_wp2_with fail
    have HM_w32:=Lib.hid (HM_w31.out.lay 69 [.string xn,.int .i64 (xw:Nat),.bool xg,.int .i64 (xq:Nat)])
    have hge_x:=Lib.hid (HM_w31.out.big)
    generalize hW32:w31.alloc (.cells #[.string xn,.int .i64 (xw:Nat),.bool xg,.int .i64 (xq:Nat)] 69)=w32 at *
    clear hW32 HM_w31
    refine (HWd.out w32 2 (by omega) (by omega) HM_w32.out.maker (HS.out.2 _ HM_w32.out.up)).mono ?_;intro e w33 hR;obtain ⟨⟨tak,taw,tas,tal⟩,taa,tao,tag,tavp,tavn,tavc,taap,taan,taac,rfl,htta,hwta,hk33,hu33⟩:=hR.open;clear hR;have HM_w33:=Lib.hid (HM_w32.out.tree hu33 hk33 htta hwta);clear hk33 hu33 htta hwta
    clear HM_w32
    go_upto_region 17 with fail
    have HM_w34:=Lib.hid (HM_w33.out.lay 76 [.int .i64 (tak:Nat),.int .i64 tao,.int .i64 (taw:Nat),.int .i64 (tas:Nat),.int .i64 (tal:Nat),.bool tag,.slice tavp tavn tavc,.slice taap taan taac])
    have hge_d:=Lib.hid (HM_w33.out.big)
    generalize hW34:w33.alloc (.cells #[.int .i64 (tak:Nat),.int .i64 tao,.int .i64 (taw:Nat),.int .i64 (tas:Nat),.int .i64 (tal:Nat),.bool tag,.slice tavp tavn tavc,.slice taap taan taac] 76)=w34 at *
    clear hW34 HM_w33
    have x0:=(HM_w34.out.at 1 rfl).cell (i:=0) rfl
    have x1:=(HM_w34.out.at 1 rfl).cell (i:=1) rfl
    have x2:=(HM_w34.out.at 1 rfl).cell (i:=2) rfl
    have x3:=(HM_w34.out.at 1 rfl).cell (i:=3) rfl
    have d0:=(HM_w34.out.at 0 rfl).cell (i:=0) rfl
    have d1:=(HM_w34.out.at 0 rfl).cell (i:=1) rfl
    have d2:=(HM_w34.out.at 0 rfl).cell (i:=2) rfl
    have d3:=(HM_w34.out.at 0 rfl).cell (i:=3) rfl
    have d4:=(HM_w34.out.at 0 rfl).cell (i:=4) rfl
    have d5:=(HM_w34.out.at 0 rfl).cell (i:=5) rfl
    have d6:=(HM_w34.out.at 0 rfl).cell (i:=6) rfl
    have d7:=(HM_w34.out.at 0 rfl).cell (i:=7) rfl
    go_wp2_with fail
    clear x0 x1 x2 x3 d0 d1 d2 d3 d4 d5 d6 d7
    have HM_w35:=Lib.hid (HM_w34.out.lay 76 [.int .i64 (tak:Nat),.int .i64 tao,.int .i64 (taw:Nat),.int .i64 (tas:Nat),.int .i64 (tal:Nat),.bool tag,.slice tavp tavn tavc,.slice taap taan taac])
    have hge_e:=Lib.hid (HM_w34.out.big)
    generalize hW35:w34.alloc (.cells #[.int .i64 (tak:Nat),.int .i64 tao,.int .i64 (taw:Nat),.int .i64 (tas:Nat),.int .i64 (tal:Nat),.bool tag,.slice tavp tavn tavc,.slice taap taan taac] 76)=w35 at *
    clear hW35 HM_w34
    have hT36:TR (From (w.heap.size+1)) w35 _ [.int .i64 3,.int .i64 0,.int .i64 (xw:Nat),.int .i64 (i:Nat),.int .i64 0,.bool false,.slice none 0 0,.slice (some ⟨w34.heap.size,0,none⟩) 1 1]:=HM_w35.out.over (HM_w35.out.t 0 rfl).1 (HM_w35.out.at 0 rfl) hge_e.out ⟨3,xw,i,0⟩ 0 false
    refine (wide_any (n:=n) hT36 ⟨λ h=>(by simp at h),λ _=>HX.out.2.2,by simp,by have:=HX.out.2.1;simp;omega,by have:=HX.out.2.2;have:=H.out.2.2.1;simp;omega,by simp,by simp [TL.len],(HM_w35.out.t 0 rfl).2,trivial⟩ m (by have:=H.out.2.2.2.2.1;omega)).mono ?_;intro e w36 hR;obtain ⟨⟨tzk,tzw,tzs,tzl⟩,tza,tzo,tzg,tzvp,tzvn,tzvc,tzap,tzan,tzac,rfl,httz,hwtz,hb36⟩:=hR.open;clear hR hT36
    have HM_w36:=Lib.hid (HM_w35.out.wide hb36 httz hwtz);clear hb36 httz hwtz HM_w35
    obtain ⟨r0,r1,r2,r3,r4,r5,r6,r7⟩:=cells8 (HM_w36.out.at 3 rfl);obtain ⟨f0,f1,f2,f3,f4,f5,f6,f7⟩:=frz8 (HM_w36.out.at 3 rfl)
    go_wp2_with fail
    have e0:=(blk8 (HM_w36.out.at 3 rfl) (.int .i64 (tzk:Nat)) (.int .i64 tzo) (.int .i64 (tzw:Nat)) (.int .i64 (tzs:Nat)) (.int .i64 (tzl:Nat)) (.bool tzg) (.slice tzvp tzvn tzvc) (.slice tzap tzan tzac)).cell (i:=0) rfl
    have e1:=(blk8 (HM_w36.out.at 3 rfl) (.int .i64 (tzk:Nat)) (.int .i64 tzo) (.int .i64 (tzw:Nat)) (.int .i64 (tzs:Nat)) (.int .i64 (tzl:Nat)) (.bool tzg) (.slice tzvp tzvn tzvc) (.slice tzap tzan tzac)).cell (i:=1) rfl
    have e2:=(blk8 (HM_w36.out.at 3 rfl) (.int .i64 (tzk:Nat)) (.int .i64 tzo) (.int .i64 (tzw:Nat)) (.int .i64 (tzs:Nat)) (.int .i64 (tzl:Nat)) (.bool tzg) (.slice tzvp tzvn tzvc) (.slice tzap tzan tzac)).cell (i:=2) rfl
    have e3:=(blk8 (HM_w36.out.at 3 rfl) (.int .i64 (tzk:Nat)) (.int .i64 tzo) (.int .i64 (tzw:Nat)) (.int .i64 (tzs:Nat)) (.int .i64 (tzl:Nat)) (.bool tzg) (.slice tzvp tzvn tzvc) (.slice tzap tzan tzac)).cell (i:=3) rfl
    have e4:=(blk8 (HM_w36.out.at 3 rfl) (.int .i64 (tzk:Nat)) (.int .i64 tzo) (.int .i64 (tzw:Nat)) (.int .i64 (tzs:Nat)) (.int .i64 (tzl:Nat)) (.bool tzg) (.slice tzvp tzvn tzvc) (.slice tzap tzan tzac)).cell (i:=4) rfl
    have e5:=(blk8 (HM_w36.out.at 3 rfl) (.int .i64 (tzk:Nat)) (.int .i64 tzo) (.int .i64 (tzw:Nat)) (.int .i64 (tzs:Nat)) (.int .i64 (tzl:Nat)) (.bool tzg) (.slice tzvp tzvn tzvc) (.slice tzap tzan tzac)).cell (i:=5) rfl
    have e6:=(blk8 (HM_w36.out.at 3 rfl) (.int .i64 (tzk:Nat)) (.int .i64 tzo) (.int .i64 (tzw:Nat)) (.int .i64 (tzs:Nat)) (.int .i64 (tzl:Nat)) (.bool tzg) (.slice tzvp tzvn tzvc) (.slice tzap tzan tzac)).cell (i:=6) rfl
    have e7:=(blk8 (HM_w36.out.at 3 rfl) (.int .i64 (tzk:Nat)) (.int .i64 tzo) (.int .i64 (tzw:Nat)) (.int .i64 (tzs:Nat)) (.int .i64 (tzl:Nat)) (.bool tzg) (.slice tzvp tzvn tzvc) (.slice tzap tzan tzac)).cell (i:=7) rfl
    clear r0 r1 r2 r3 r4 r5 r6 r7 f0 f1 f2 f3 f4 f5 f6 f7
    go_wp2_with fail
    exact bodyPost_ret (v := .agg #[.int .i64 (tzk:Nat),.int .i64 tzo,.int .i64 (tzw:Nat),.int .i64 (tzs:Nat),.int .i64 (tzl:Nat),.bool tzg,.slice tzvp tzvn tzvc,.slice tzap tzan tzac]) (by simp [results,Try.results12,go_sem,e0,e1,e2,e3,e4,e5,e6,e7]) rfl (HM_w36.out.fin (cs := [.int .i64 (tzk:Nat),.int .i64 tzo,.int .i64 (tzw:Nat),.int .i64 (tzs:Nat),.int .i64 (tzl:Nat),.bool tzg,.slice tzvp tzvn tzvc,.slice tzap tzan tzac]) ((HM_w36.out.t 0 rfl).1) ((HM_w36.out.t 0 rfl).2) (upd8 _ _ _ _ _ _ _ _ _ _))
   ·
    have hqi:¬(0:Int)<(xq:Int):=by omega
    clear hx hxw hro hq hin
    go_wp2_with fail
    have HM_w37:=Lib.hid (HM_w31.out.lay 69 [.string xn,.int .i64 (xw:Nat),.bool xg,.int .i64 (xq:Nat)])
    have hge_x:=Lib.hid (HM_w31.out.big)
    generalize hW37:w31.alloc (.cells #[.string xn,.int .i64 (xw:Nat),.bool xg,.int .i64 (xq:Nat)] 69)=w37 at *
    clear hW37 HM_w31
    have HM_w38:=Lib.hid (HM_w37.out.lay 76 [.int .i64 2,.int .i64 0,.int .i64 (xw:Nat),.int .i64 (i:Nat),.int .i64 0,.bool false,.slice none 0 0,.slice none 0 0])
    have hge_d:=Lib.hid (HM_w37.out.big)
    generalize hW38:w37.alloc (.cells #[.int .i64 2,.int .i64 0,.int .i64 (xw:Nat),.int .i64 (i:Nat),.int .i64 0,.bool false,.slice none 0 0,.slice none 0 0] 76)=w38 at *
    clear hW38 HM_w37
    have hT39:TR (From (w.heap.size+1)) w38 _ [.int .i64 2,.int .i64 0,.int .i64 (xw:Nat),.int .i64 (i:Nat),.int .i64 0,.bool false,.slice none 0 0,.slice none 0 0]:=tr_mk (h:=⟨2,xw,i,0⟩) (a := .nil) (vl := []) ROA.nil (by simp) ROA.nil rfl
    refine (wide_any (n:=n) hT39 ⟨λ h=>(by simp at h),λ _=>HX.out.2.2,by simp,by have:=HX.out.2.1;simp;omega,by have:=HX.out.2.2;have:=H.out.2.2.1;simp;omega,by simp,by simp [TL.len],trivial,trivial⟩ m (by have:=H.out.2.2.2.2.1;omega)).mono ?_;intro e w39 hR;obtain ⟨⟨tzk,tzw,tzs,tzl⟩,tza,tzo,tzg,tzvp,tzvn,tzvc,tzap,tzan,tzac,rfl,httz,hwtz,hb39⟩:=hR.open;clear hR hT39
    have HM_w39:=Lib.hid (HM_w38.out.wide hb39 httz hwtz);clear hb39 httz hwtz HM_w38
    obtain ⟨r0,r1,r2,r3,r4,r5,r6,r7⟩:=cells8 (HM_w39.out.at 2 rfl);obtain ⟨f0,f1,f2,f3,f4,f5,f6,f7⟩:=frz8 (HM_w39.out.at 2 rfl)
    go_wp2_with fail
    have e0:=(blk8 (HM_w39.out.at 2 rfl) (.int .i64 (tzk:Nat)) (.int .i64 tzo) (.int .i64 (tzw:Nat)) (.int .i64 (tzs:Nat)) (.int .i64 (tzl:Nat)) (.bool tzg) (.slice tzvp tzvn tzvc) (.slice tzap tzan tzac)).cell (i:=0) rfl
    have e1:=(blk8 (HM_w39.out.at 2 rfl) (.int .i64 (tzk:Nat)) (.int .i64 tzo) (.int .i64 (tzw:Nat)) (.int .i64 (tzs:Nat)) (.int .i64 (tzl:Nat)) (.bool tzg) (.slice tzvp tzvn tzvc) (.slice tzap tzan tzac)).cell (i:=1) rfl
    have e2:=(blk8 (HM_w39.out.at 2 rfl) (.int .i64 (tzk:Nat)) (.int .i64 tzo) (.int .i64 (tzw:Nat)) (.int .i64 (tzs:Nat)) (.int .i64 (tzl:Nat)) (.bool tzg) (.slice tzvp tzvn tzvc) (.slice tzap tzan tzac)).cell (i:=2) rfl
    have e3:=(blk8 (HM_w39.out.at 2 rfl) (.int .i64 (tzk:Nat)) (.int .i64 tzo) (.int .i64 (tzw:Nat)) (.int .i64 (tzs:Nat)) (.int .i64 (tzl:Nat)) (.bool tzg) (.slice tzvp tzvn tzvc) (.slice tzap tzan tzac)).cell (i:=3) rfl
    have e4:=(blk8 (HM_w39.out.at 2 rfl) (.int .i64 (tzk:Nat)) (.int .i64 tzo) (.int .i64 (tzw:Nat)) (.int .i64 (tzs:Nat)) (.int .i64 (tzl:Nat)) (.bool tzg) (.slice tzvp tzvn tzvc) (.slice tzap tzan tzac)).cell (i:=4) rfl
    have e5:=(blk8 (HM_w39.out.at 2 rfl) (.int .i64 (tzk:Nat)) (.int .i64 tzo) (.int .i64 (tzw:Nat)) (.int .i64 (tzs:Nat)) (.int .i64 (tzl:Nat)) (.bool tzg) (.slice tzvp tzvn tzvc) (.slice tzap tzan tzac)).cell (i:=5) rfl
    have e6:=(blk8 (HM_w39.out.at 2 rfl) (.int .i64 (tzk:Nat)) (.int .i64 tzo) (.int .i64 (tzw:Nat)) (.int .i64 (tzs:Nat)) (.int .i64 (tzl:Nat)) (.bool tzg) (.slice tzvp tzvn tzvc) (.slice tzap tzan tzac)).cell (i:=6) rfl
    have e7:=(blk8 (HM_w39.out.at 2 rfl) (.int .i64 (tzk:Nat)) (.int .i64 tzo) (.int .i64 (tzw:Nat)) (.int .i64 (tzs:Nat)) (.int .i64 (tzl:Nat)) (.bool tzg) (.slice tzvp tzvn tzvc) (.slice tzap tzan tzac)).cell (i:=7) rfl
    clear r0 r1 r2 r3 r4 r5 r6 r7 f0 f1 f2 f3 f4 f5 f6 f7
    go_wp2_with fail
    exact bodyPost_ret (v := .agg #[.int .i64 (tzk:Nat),.int .i64 tzo,.int .i64 (tzw:Nat),.int .i64 (tzs:Nat),.int .i64 (tzl:Nat),.bool tzg,.slice tzvp tzvn tzvc,.slice tzap tzan tzac]) (by simp [results,Try.results12,go_sem,e0,e1,e2,e3,e4,e5,e6,e7]) rfl (HM_w39.out.fin (cs := [.int .i64 (tzk:Nat),.int .i64 tzo,.int .i64 (tzw:Nat),.int .i64 (tzs:Nat),.int .i64 (tzl:Nat),.bool tzg,.slice tzvp tzvn tzvc,.slice tzap tzan tzac]) ((HM_w39.out.t 0 rfl).1) ((HM_w39.out.t 0 rfl).2) (upd8 _ _ _ _ _ _ _ _ _ _))
  rcases hK0 with rfl | hK0
  ·
   go_wp2_with fail
   refine (next_any HM_w1.out.maker N (by have:=H.out.1.pos;have:=H.out.2.2.2.2.2.2.2;omega) (by have:=H.out.1.le;have:=H.out.2.2.2.2.2.2.2;omega)).mono ?_;rintro e w40 ⟨i,hli,rfl,hk40,hu40⟩
   have HM_w40:=Lib.hid (HM_w1.out.call hk40 hu40);clear hk40 hu40 HM_w1
   obtain ⟨⟨xn,xw,xg,xq⟩,hx⟩:∃ x,l[i]? = some x:=⟨_,List.getElem?_eq_getElem (by have:=H.out.2.2.2.2.2.2.2;omega)⟩
   have hxw:=H.out.1.w _ (List.mem_of_getElem? hx)
   have hro:=(HS.out.1 _ HM_w40.out.up).ro
   have s0:=hro.cell (sigCells_at hx).1;have s1:=hro.cell (sigCells_at hx).2.1;have s2:=hro.cell (sigCells_at hx).2.2.1;have s3:=hro.cell (sigCells_at hx).2.2.2
   dsimp only at s0 s1 s2 s3 hxw
   rw [←Nat.add_assoc] at s1 s2 s3
   have hi0:(0:Int)≤i:=by omega
   have hiN:(i:Int)<N:=by omega
   have hin:i<n:=by have:=H.out.2.1;have:=H.out.2.2.2.2.2.2.2;omega
   have HX:=Lib.hid (And.intro hx (And.intro hxw hin))
   by_cases hq:0<xq
   ·
    have hqi:(0:Int)<(xq:Int):=by omega
    have hwd:=HW.out.1.resolve_left (λ h1=>one_no H.out.1 HX.out.1 h1 hq)
    clear hx hxw hro hq hin
    have HWd:=Lib.hid hwd;clear hwd
    go_wp2_with fail
    have HM_w41:=Lib.hid (HM_w40.out.lay 69 [.string xn,.int .i64 (xw:Nat),.bool xg,.int .i64 (xq:Nat)])
    have hge_x:=Lib.hid (HM_w40.out.big)
    generalize hW41:w40.alloc (.cells #[.string xn,.int .i64 (xw:Nat),.bool xg,.int .i64 (xq:Nat)] 69)=w41 at *
    clear hW41 HM_w40
    refine (HWd.out w41 2 (by omega) (by omega) HM_w41.out.maker (HS.out.2 _ HM_w41.out.up)).mono ?_;intro e w42 hR;obtain ⟨⟨tak,taw,tas,tal⟩,taa,tao,tag,tavp,tavn,tavc,taap,taan,taac,rfl,htta,hwta,hk42,hu42⟩:=hR.open;clear hR;have HM_w42:=Lib.hid (HM_w41.out.tree hu42 hk42 htta hwta);clear hk42 hu42 htta hwta
    clear HM_w41
    go_upto_region 17 with fail
    have HM_w43:=Lib.hid (HM_w42.out.lay 76 [.int .i64 (tak:Nat),.int .i64 tao,.int .i64 (taw:Nat),.int .i64 (tas:Nat),.int .i64 (tal:Nat),.bool tag,.slice tavp tavn tavc,.slice taap taan taac])
    have hge_d:=Lib.hid (HM_w42.out.big)
    generalize hW43:w42.alloc (.cells #[.int .i64 (tak:Nat),.int .i64 tao,.int .i64 (taw:Nat),.int .i64 (tas:Nat),.int .i64 (tal:Nat),.bool tag,.slice tavp tavn tavc,.slice taap taan taac] 76)=w43 at *
    clear hW43 HM_w42
    have x0:=(HM_w43.out.at 1 rfl).cell (i:=0) rfl
    have x1:=(HM_w43.out.at 1 rfl).cell (i:=1) rfl
    have x2:=(HM_w43.out.at 1 rfl).cell (i:=2) rfl
    have x3:=(HM_w43.out.at 1 rfl).cell (i:=3) rfl
    have d0:=(HM_w43.out.at 0 rfl).cell (i:=0) rfl
    have d1:=(HM_w43.out.at 0 rfl).cell (i:=1) rfl
    have d2:=(HM_w43.out.at 0 rfl).cell (i:=2) rfl
    have d3:=(HM_w43.out.at 0 rfl).cell (i:=3) rfl
    have d4:=(HM_w43.out.at 0 rfl).cell (i:=4) rfl
    have d5:=(HM_w43.out.at 0 rfl).cell (i:=5) rfl
    have d6:=(HM_w43.out.at 0 rfl).cell (i:=6) rfl
    have d7:=(HM_w43.out.at 0 rfl).cell (i:=7) rfl
    go_wp2_with fail
    clear x0 x1 x2 x3 d0 d1 d2 d3 d4 d5 d6 d7
    have HM_w44:=Lib.hid (HM_w43.out.lay 76 [.int .i64 (tak:Nat),.int .i64 tao,.int .i64 (taw:Nat),.int .i64 (tas:Nat),.int .i64 (tal:Nat),.bool tag,.slice tavp tavn tavc,.slice taap taan taac])
    have hge_e:=Lib.hid (HM_w43.out.big)
    generalize hW44:w43.alloc (.cells #[.int .i64 (tak:Nat),.int .i64 tao,.int .i64 (taw:Nat),.int .i64 (tas:Nat),.int .i64 (tal:Nat),.bool tag,.slice tavp tavn tavc,.slice taap taan taac] 76)=w44 at *
    clear hW44 HM_w43
    have hT45:TR (From (w.heap.size+1)) w44 _ [.int .i64 3,.int .i64 0,.int .i64 (xw:Nat),.int .i64 (i:Nat),.int .i64 0,.bool false,.slice none 0 0,.slice (some ⟨w43.heap.size,0,none⟩) 1 1]:=HM_w44.out.over (HM_w44.out.t 0 rfl).1 (HM_w44.out.at 0 rfl) hge_e.out ⟨3,xw,i,0⟩ 0 false
    refine (wide_any (n:=n) hT45 ⟨λ h=>(by simp at h),λ _=>HX.out.2.2,by simp,by have:=HX.out.2.1;simp;omega,by have:=HX.out.2.2;have:=H.out.2.2.1;simp;omega,by simp,by simp [TL.len],(HM_w44.out.t 0 rfl).2,trivial⟩ m (by have:=H.out.2.2.2.2.1;omega)).mono ?_;intro e w45 hR;obtain ⟨⟨tzk,tzw,tzs,tzl⟩,tza,tzo,tzg,tzvp,tzvn,tzvc,tzap,tzan,tzac,rfl,httz,hwtz,hb45⟩:=hR.open;clear hR hT45
    have HM_w45:=Lib.hid (HM_w44.out.wide hb45 httz hwtz);clear hb45 httz hwtz HM_w44
    obtain ⟨r0,r1,r2,r3,r4,r5,r6,r7⟩:=cells8 (HM_w45.out.at 3 rfl);obtain ⟨f0,f1,f2,f3,f4,f5,f6,f7⟩:=frz8 (HM_w45.out.at 3 rfl)
    go_wp2_with fail
    have e0:=(blk8 (HM_w45.out.at 3 rfl) (.int .i64 (tzk:Nat)) (.int .i64 tzo) (.int .i64 (tzw:Nat)) (.int .i64 (tzs:Nat)) (.int .i64 (tzl:Nat)) (.bool tzg) (.slice tzvp tzvn tzvc) (.slice tzap tzan tzac)).cell (i:=0) rfl
    have e1:=(blk8 (HM_w45.out.at 3 rfl) (.int .i64 (tzk:Nat)) (.int .i64 tzo) (.int .i64 (tzw:Nat)) (.int .i64 (tzs:Nat)) (.int .i64 (tzl:Nat)) (.bool tzg) (.slice tzvp tzvn tzvc) (.slice tzap tzan tzac)).cell (i:=1) rfl
    have e2:=(blk8 (HM_w45.out.at 3 rfl) (.int .i64 (tzk:Nat)) (.int .i64 tzo) (.int .i64 (tzw:Nat)) (.int .i64 (tzs:Nat)) (.int .i64 (tzl:Nat)) (.bool tzg) (.slice tzvp tzvn tzvc) (.slice tzap tzan tzac)).cell (i:=2) rfl
    have e3:=(blk8 (HM_w45.out.at 3 rfl) (.int .i64 (tzk:Nat)) (.int .i64 tzo) (.int .i64 (tzw:Nat)) (.int .i64 (tzs:Nat)) (.int .i64 (tzl:Nat)) (.bool tzg) (.slice tzvp tzvn tzvc) (.slice tzap tzan tzac)).cell (i:=3) rfl
    have e4:=(blk8 (HM_w45.out.at 3 rfl) (.int .i64 (tzk:Nat)) (.int .i64 tzo) (.int .i64 (tzw:Nat)) (.int .i64 (tzs:Nat)) (.int .i64 (tzl:Nat)) (.bool tzg) (.slice tzvp tzvn tzvc) (.slice tzap tzan tzac)).cell (i:=4) rfl
    have e5:=(blk8 (HM_w45.out.at 3 rfl) (.int .i64 (tzk:Nat)) (.int .i64 tzo) (.int .i64 (tzw:Nat)) (.int .i64 (tzs:Nat)) (.int .i64 (tzl:Nat)) (.bool tzg) (.slice tzvp tzvn tzvc) (.slice tzap tzan tzac)).cell (i:=5) rfl
    have e6:=(blk8 (HM_w45.out.at 3 rfl) (.int .i64 (tzk:Nat)) (.int .i64 tzo) (.int .i64 (tzw:Nat)) (.int .i64 (tzs:Nat)) (.int .i64 (tzl:Nat)) (.bool tzg) (.slice tzvp tzvn tzvc) (.slice tzap tzan tzac)).cell (i:=6) rfl
    have e7:=(blk8 (HM_w45.out.at 3 rfl) (.int .i64 (tzk:Nat)) (.int .i64 tzo) (.int .i64 (tzw:Nat)) (.int .i64 (tzs:Nat)) (.int .i64 (tzl:Nat)) (.bool tzg) (.slice tzvp tzvn tzvc) (.slice tzap tzan tzac)).cell (i:=7) rfl
    clear r0 r1 r2 r3 r4 r5 r6 r7 f0 f1 f2 f3 f4 f5 f6 f7
    go_wp2_with fail
    exact bodyPost_ret (v := .agg #[.int .i64 (tzk:Nat),.int .i64 tzo,.int .i64 (tzw:Nat),.int .i64 (tzs:Nat),.int .i64 (tzl:Nat),.bool tzg,.slice tzvp tzvn tzvc,.slice tzap tzan tzac]) (by simp [results,Try.results12,go_sem,e0,e1,e2,e3,e4,e5,e6,e7]) rfl (HM_w45.out.fin (cs := [.int .i64 (tzk:Nat),.int .i64 tzo,.int .i64 (tzw:Nat),.int .i64 (tzs:Nat),.int .i64 (tzl:Nat),.bool tzg,.slice tzvp tzvn tzvc,.slice tzap tzan tzac]) ((HM_w45.out.t 0 rfl).1) ((HM_w45.out.t 0 rfl).2) (upd8 _ _ _ _ _ _ _ _ _ _))
   ·
    have hqi:¬(0:Int)<(xq:Int):=by omega
    clear hx hxw hro hq hin
    go_wp2_with fail
    have HM_w46:=Lib.hid (HM_w40.out.lay 69 [.string xn,.int .i64 (xw:Nat),.bool xg,.int .i64 (xq:Nat)])
    have hge_x:=Lib.hid (HM_w40.out.big)
    generalize hW46:w40.alloc (.cells #[.string xn,.int .i64 (xw:Nat),.bool xg,.int .i64 (xq:Nat)] 69)=w46 at *
    clear hW46 HM_w40
    have HM_w47:=Lib.hid (HM_w46.out.lay 76 [.int .i64 2,.int .i64 0,.int .i64 (xw:Nat),.int .i64 (i:Nat),.int .i64 0,.bool false,.slice none 0 0,.slice none 0 0])
    have hge_d:=Lib.hid (HM_w46.out.big)
    generalize hW47:w46.alloc (.cells #[.int .i64 2,.int .i64 0,.int .i64 (xw:Nat),.int .i64 (i:Nat),.int .i64 0,.bool false,.slice none 0 0,.slice none 0 0] 76)=w47 at *
    clear hW47 HM_w46
    have hT48:TR (From (w.heap.size+1)) w47 _ [.int .i64 2,.int .i64 0,.int .i64 (xw:Nat),.int .i64 (i:Nat),.int .i64 0,.bool false,.slice none 0 0,.slice none 0 0]:=tr_mk (h:=⟨2,xw,i,0⟩) (a := .nil) (vl := []) ROA.nil (by simp) ROA.nil rfl
    refine (wide_any (n:=n) hT48 ⟨λ h=>(by simp at h),λ _=>HX.out.2.2,by simp,by have:=HX.out.2.1;simp;omega,by have:=HX.out.2.2;have:=H.out.2.2.1;simp;omega,by simp,by simp [TL.len],trivial,trivial⟩ m (by have:=H.out.2.2.2.2.1;omega)).mono ?_;intro e w48 hR;obtain ⟨⟨tzk,tzw,tzs,tzl⟩,tza,tzo,tzg,tzvp,tzvn,tzvc,tzap,tzan,tzac,rfl,httz,hwtz,hb48⟩:=hR.open;clear hR hT48
    have HM_w48:=Lib.hid (HM_w47.out.wide hb48 httz hwtz);clear hb48 httz hwtz HM_w47
    obtain ⟨r0,r1,r2,r3,r4,r5,r6,r7⟩:=cells8 (HM_w48.out.at 2 rfl);obtain ⟨f0,f1,f2,f3,f4,f5,f6,f7⟩:=frz8 (HM_w48.out.at 2 rfl)
    go_wp2_with fail
    have e0:=(blk8 (HM_w48.out.at 2 rfl) (.int .i64 (tzk:Nat)) (.int .i64 tzo) (.int .i64 (tzw:Nat)) (.int .i64 (tzs:Nat)) (.int .i64 (tzl:Nat)) (.bool tzg) (.slice tzvp tzvn tzvc) (.slice tzap tzan tzac)).cell (i:=0) rfl
    have e1:=(blk8 (HM_w48.out.at 2 rfl) (.int .i64 (tzk:Nat)) (.int .i64 tzo) (.int .i64 (tzw:Nat)) (.int .i64 (tzs:Nat)) (.int .i64 (tzl:Nat)) (.bool tzg) (.slice tzvp tzvn tzvc) (.slice tzap tzan tzac)).cell (i:=1) rfl
    have e2:=(blk8 (HM_w48.out.at 2 rfl) (.int .i64 (tzk:Nat)) (.int .i64 tzo) (.int .i64 (tzw:Nat)) (.int .i64 (tzs:Nat)) (.int .i64 (tzl:Nat)) (.bool tzg) (.slice tzvp tzvn tzvc) (.slice tzap tzan tzac)).cell (i:=2) rfl
    have e3:=(blk8 (HM_w48.out.at 2 rfl) (.int .i64 (tzk:Nat)) (.int .i64 tzo) (.int .i64 (tzw:Nat)) (.int .i64 (tzs:Nat)) (.int .i64 (tzl:Nat)) (.bool tzg) (.slice tzvp tzvn tzvc) (.slice tzap tzan tzac)).cell (i:=3) rfl
    have e4:=(blk8 (HM_w48.out.at 2 rfl) (.int .i64 (tzk:Nat)) (.int .i64 tzo) (.int .i64 (tzw:Nat)) (.int .i64 (tzs:Nat)) (.int .i64 (tzl:Nat)) (.bool tzg) (.slice tzvp tzvn tzvc) (.slice tzap tzan tzac)).cell (i:=4) rfl
    have e5:=(blk8 (HM_w48.out.at 2 rfl) (.int .i64 (tzk:Nat)) (.int .i64 tzo) (.int .i64 (tzw:Nat)) (.int .i64 (tzs:Nat)) (.int .i64 (tzl:Nat)) (.bool tzg) (.slice tzvp tzvn tzvc) (.slice tzap tzan tzac)).cell (i:=5) rfl
    have e6:=(blk8 (HM_w48.out.at 2 rfl) (.int .i64 (tzk:Nat)) (.int .i64 tzo) (.int .i64 (tzw:Nat)) (.int .i64 (tzs:Nat)) (.int .i64 (tzl:Nat)) (.bool tzg) (.slice tzvp tzvn tzvc) (.slice tzap tzan tzac)).cell (i:=6) rfl
    have e7:=(blk8 (HM_w48.out.at 2 rfl) (.int .i64 (tzk:Nat)) (.int .i64 tzo) (.int .i64 (tzw:Nat)) (.int .i64 (tzs:Nat)) (.int .i64 (tzl:Nat)) (.bool tzg) (.slice tzvp tzvn tzvc) (.slice tzap tzan tzac)).cell (i:=7) rfl
    clear r0 r1 r2 r3 r4 r5 r6 r7 f0 f1 f2 f3 f4 f5 f6 f7
    go_wp2_with fail
    exact bodyPost_ret (v := .agg #[.int .i64 (tzk:Nat),.int .i64 tzo,.int .i64 (tzw:Nat),.int .i64 (tzs:Nat),.int .i64 (tzl:Nat),.bool tzg,.slice tzvp tzvn tzvc,.slice tzap tzan tzac]) (by simp [results,Try.results12,go_sem,e0,e1,e2,e3,e4,e5,e6,e7]) rfl (HM_w48.out.fin (cs := [.int .i64 (tzk:Nat),.int .i64 tzo,.int .i64 (tzw:Nat),.int .i64 (tzs:Nat),.int .i64 (tzl:Nat),.bool tzg,.slice tzvp tzvn tzvc,.slice tzap tzan tzac]) ((HM_w48.out.t 0 rfl).1) ((HM_w48.out.t 0 rfl).2) (upd8 _ _ _ _ _ _ _ _ _ _))
  rcases hK0 with rfl | hK0
  ·
   go_wp2_with fail
   refine (next_any HM_w1.out.maker N (by have:=H.out.1.pos;have:=H.out.2.2.2.2.2.2.2;omega) (by have:=H.out.1.le;have:=H.out.2.2.2.2.2.2.2;omega)).mono ?_;rintro e w49 ⟨i,hli,rfl,hk49,hu49⟩
   have HM_w49:=Lib.hid (HM_w1.out.call hk49 hu49);clear hk49 hu49 HM_w1
   obtain ⟨⟨xn,xw,xg,xq⟩,hx⟩:∃ x,l[i]? = some x:=⟨_,List.getElem?_eq_getElem (by have:=H.out.2.2.2.2.2.2.2;omega)⟩
   have hxw:=H.out.1.w _ (List.mem_of_getElem? hx)
   have hro:=(HS.out.1 _ HM_w49.out.up).ro
   have s0:=hro.cell (sigCells_at hx).1;have s1:=hro.cell (sigCells_at hx).2.1;have s2:=hro.cell (sigCells_at hx).2.2.1;have s3:=hro.cell (sigCells_at hx).2.2.2
   dsimp only at s0 s1 s2 s3 hxw
   rw [←Nat.add_assoc] at s1 s2 s3
   have hi0:(0:Int)≤i:=by omega
   have hiN:(i:Int)<N:=by omega
   have hin:i<n:=by have:=H.out.2.1;have:=H.out.2.2.2.2.2.2.2;omega
   have HX:=Lib.hid (And.intro hx (And.intro hxw hin))
   by_cases hq:0<xq
   ·
    have hqi:(0:Int)<(xq:Int):=by omega
    have hwd:=HW.out.1.resolve_left (λ h1=>one_no H.out.1 HX.out.1 h1 hq)
    clear hx hxw hro hq hin
    have HWd:=Lib.hid hwd;clear hwd
    go_wp2_with fail
    have HM_w50:=Lib.hid (HM_w49.out.lay 69 [.string xn,.int .i64 (xw:Nat),.bool xg,.int .i64 (xq:Nat)])
    have hge_x:=Lib.hid (HM_w49.out.big)
    generalize hW50:w49.alloc (.cells #[.string xn,.int .i64 (xw:Nat),.bool xg,.int .i64 (xq:Nat)] 69)=w50 at *
    clear hW50 HM_w49
    refine (HWd.out w50 2 (by omega) (by omega) HM_w50.out.maker (HS.out.2 _ HM_w50.out.up)).mono ?_;intro e w51 hR;obtain ⟨⟨tak,taw,tas,tal⟩,taa,tao,tag,tavp,tavn,tavc,taap,taan,taac,rfl,htta,hwta,hk51,hu51⟩:=hR.open;clear hR;have HM_w51:=Lib.hid (HM_w50.out.tree hu51 hk51 htta hwta);clear hk51 hu51 htta hwta
    clear HM_w50
    go_upto_region 17 with fail
    have HM_w52:=Lib.hid (HM_w51.out.lay 76 [.int .i64 (tak:Nat),.int .i64 tao,.int .i64 (taw:Nat),.int .i64 (tas:Nat),.int .i64 (tal:Nat),.bool tag,.slice tavp tavn tavc,.slice taap taan taac])
    have hge_d:=Lib.hid (HM_w51.out.big)
    generalize hW52:w51.alloc (.cells #[.int .i64 (tak:Nat),.int .i64 tao,.int .i64 (taw:Nat),.int .i64 (tas:Nat),.int .i64 (tal:Nat),.bool tag,.slice tavp tavn tavc,.slice taap taan taac] 76)=w52 at *
    clear hW52 HM_w51
    have x0:=(HM_w52.out.at 1 rfl).cell (i:=0) rfl
    have x1:=(HM_w52.out.at 1 rfl).cell (i:=1) rfl
    have x2:=(HM_w52.out.at 1 rfl).cell (i:=2) rfl
    have x3:=(HM_w52.out.at 1 rfl).cell (i:=3) rfl
    have d0:=(HM_w52.out.at 0 rfl).cell (i:=0) rfl
    have d1:=(HM_w52.out.at 0 rfl).cell (i:=1) rfl
    have d2:=(HM_w52.out.at 0 rfl).cell (i:=2) rfl
    have d3:=(HM_w52.out.at 0 rfl).cell (i:=3) rfl
    have d4:=(HM_w52.out.at 0 rfl).cell (i:=4) rfl
    have d5:=(HM_w52.out.at 0 rfl).cell (i:=5) rfl
    have d6:=(HM_w52.out.at 0 rfl).cell (i:=6) rfl
    have d7:=(HM_w52.out.at 0 rfl).cell (i:=7) rfl
    go_wp2_with fail
    clear x0 x1 x2 x3 d0 d1 d2 d3 d4 d5 d6 d7
    have HM_w53:=Lib.hid (HM_w52.out.lay 76 [.int .i64 (tak:Nat),.int .i64 tao,.int .i64 (taw:Nat),.int .i64 (tas:Nat),.int .i64 (tal:Nat),.bool tag,.slice tavp tavn tavc,.slice taap taan taac])
    have hge_e:=Lib.hid (HM_w52.out.big)
    generalize hW53:w52.alloc (.cells #[.int .i64 (tak:Nat),.int .i64 tao,.int .i64 (taw:Nat),.int .i64 (tas:Nat),.int .i64 (tal:Nat),.bool tag,.slice tavp tavn tavc,.slice taap taan taac] 76)=w53 at *
    clear hW53 HM_w52
    have hT54:TR (From (w.heap.size+1)) w53 _ [.int .i64 3,.int .i64 0,.int .i64 (xw:Nat),.int .i64 (i:Nat),.int .i64 0,.bool false,.slice none 0 0,.slice (some ⟨w52.heap.size,0,none⟩) 1 1]:=HM_w53.out.over (HM_w53.out.t 0 rfl).1 (HM_w53.out.at 0 rfl) hge_e.out ⟨3,xw,i,0⟩ 0 false
    refine (wide_any (n:=n) hT54 ⟨λ h=>(by simp at h),λ _=>HX.out.2.2,by simp,by have:=HX.out.2.1;simp;omega,by have:=HX.out.2.2;have:=H.out.2.2.1;simp;omega,by simp,by simp [TL.len],(HM_w53.out.t 0 rfl).2,trivial⟩ m (by have:=H.out.2.2.2.2.1;omega)).mono ?_;intro e w54 hR;obtain ⟨⟨tzk,tzw,tzs,tzl⟩,tza,tzo,tzg,tzvp,tzvn,tzvc,tzap,tzan,tzac,rfl,httz,hwtz,hb54⟩:=hR.open;clear hR hT54
    have HM_w54:=Lib.hid (HM_w53.out.wide hb54 httz hwtz);clear hb54 httz hwtz HM_w53
    obtain ⟨r0,r1,r2,r3,r4,r5,r6,r7⟩:=cells8 (HM_w54.out.at 3 rfl);obtain ⟨f0,f1,f2,f3,f4,f5,f6,f7⟩:=frz8 (HM_w54.out.at 3 rfl)
    go_wp2_with fail
    have e0:=(blk8 (HM_w54.out.at 3 rfl) (.int .i64 (tzk:Nat)) (.int .i64 tzo) (.int .i64 (tzw:Nat)) (.int .i64 (tzs:Nat)) (.int .i64 (tzl:Nat)) (.bool tzg) (.slice tzvp tzvn tzvc) (.slice tzap tzan tzac)).cell (i:=0) rfl
    have e1:=(blk8 (HM_w54.out.at 3 rfl) (.int .i64 (tzk:Nat)) (.int .i64 tzo) (.int .i64 (tzw:Nat)) (.int .i64 (tzs:Nat)) (.int .i64 (tzl:Nat)) (.bool tzg) (.slice tzvp tzvn tzvc) (.slice tzap tzan tzac)).cell (i:=1) rfl
    have e2:=(blk8 (HM_w54.out.at 3 rfl) (.int .i64 (tzk:Nat)) (.int .i64 tzo) (.int .i64 (tzw:Nat)) (.int .i64 (tzs:Nat)) (.int .i64 (tzl:Nat)) (.bool tzg) (.slice tzvp tzvn tzvc) (.slice tzap tzan tzac)).cell (i:=2) rfl
    have e3:=(blk8 (HM_w54.out.at 3 rfl) (.int .i64 (tzk:Nat)) (.int .i64 tzo) (.int .i64 (tzw:Nat)) (.int .i64 (tzs:Nat)) (.int .i64 (tzl:Nat)) (.bool tzg) (.slice tzvp tzvn tzvc) (.slice tzap tzan tzac)).cell (i:=3) rfl
    have e4:=(blk8 (HM_w54.out.at 3 rfl) (.int .i64 (tzk:Nat)) (.int .i64 tzo) (.int .i64 (tzw:Nat)) (.int .i64 (tzs:Nat)) (.int .i64 (tzl:Nat)) (.bool tzg) (.slice tzvp tzvn tzvc) (.slice tzap tzan tzac)).cell (i:=4) rfl
    have e5:=(blk8 (HM_w54.out.at 3 rfl) (.int .i64 (tzk:Nat)) (.int .i64 tzo) (.int .i64 (tzw:Nat)) (.int .i64 (tzs:Nat)) (.int .i64 (tzl:Nat)) (.bool tzg) (.slice tzvp tzvn tzvc) (.slice tzap tzan tzac)).cell (i:=5) rfl
    have e6:=(blk8 (HM_w54.out.at 3 rfl) (.int .i64 (tzk:Nat)) (.int .i64 tzo) (.int .i64 (tzw:Nat)) (.int .i64 (tzs:Nat)) (.int .i64 (tzl:Nat)) (.bool tzg) (.slice tzvp tzvn tzvc) (.slice tzap tzan tzac)).cell (i:=6) rfl
    have e7:=(blk8 (HM_w54.out.at 3 rfl) (.int .i64 (tzk:Nat)) (.int .i64 tzo) (.int .i64 (tzw:Nat)) (.int .i64 (tzs:Nat)) (.int .i64 (tzl:Nat)) (.bool tzg) (.slice tzvp tzvn tzvc) (.slice tzap tzan tzac)).cell (i:=7) rfl
    clear r0 r1 r2 r3 r4 r5 r6 r7 f0 f1 f2 f3 f4 f5 f6 f7
    go_wp2_with fail
    exact bodyPost_ret (v := .agg #[.int .i64 (tzk:Nat),.int .i64 tzo,.int .i64 (tzw:Nat),.int .i64 (tzs:Nat),.int .i64 (tzl:Nat),.bool tzg,.slice tzvp tzvn tzvc,.slice tzap tzan tzac]) (by simp [results,Try.results12,go_sem,e0,e1,e2,e3,e4,e5,e6,e7]) rfl (HM_w54.out.fin (cs := [.int .i64 (tzk:Nat),.int .i64 tzo,.int .i64 (tzw:Nat),.int .i64 (tzs:Nat),.int .i64 (tzl:Nat),.bool tzg,.slice tzvp tzvn tzvc,.slice tzap tzan tzac]) ((HM_w54.out.t 0 rfl).1) ((HM_w54.out.t 0 rfl).2) (upd8 _ _ _ _ _ _ _ _ _ _))
   ·
    have hqi:¬(0:Int)<(xq:Int):=by omega
    clear hx hxw hro hq hin
    by_cases h1w:1<xw
    ·
     have h1i:(1:Int)<(xw:Int):=by omega
     clear h1w
     go_upto_region 18 with fail
     have HM_w55:=Lib.hid (HM_w49.out.lay 69 [.string xn,.int .i64 (xw:Nat),.bool xg,.int .i64 (xq:Nat)])
     have hge_x:=Lib.hid (HM_w49.out.big)
     generalize hW55:w49.alloc (.cells #[.string xn,.int .i64 (xw:Nat),.bool xg,.int .i64 (xq:Nat)] 69)=w55 at *
     clear hW55 HM_w49
     have x0:=(HM_w55.out.at 0 rfl).cell (i:=0) rfl
     have x1:=(HM_w55.out.at 0 rfl).cell (i:=1) rfl
     have x2:=(HM_w55.out.at 0 rfl).cell (i:=2) rfl
     have x3:=(HM_w55.out.at 0 rfl).cell (i:=3) rfl
     have v1:(w55.alloc (.cells #[.int .i64 2,.int .i64 0,.int .i64 (xw:Nat),.int .i64 (i:Nat),.int .i64 0,.bool false,.slice none 0 0,.slice none 0 0] 76)).cell? ⟨w49.heap.size,1,none⟩=some (.int .i64 (xw:Nat)):=ca x1 _
     go_upto_region 20 with fail
     clear s0 s1 s2 s3
     clear x0 x1 x2 x3 v1
     have HM_w56:=Lib.hid (HM_w55.out.lay 76 [.int .i64 2,.int .i64 0,.int .i64 (xw:Nat),.int .i64 (i:Nat),.int .i64 0,.bool false,.slice none 0 0,.slice none 0 0])
     have hge_d:=Lib.hid (HM_w55.out.big)
     generalize hW56:w55.alloc (.cells #[.int .i64 2,.int .i64 0,.int .i64 (xw:Nat),.int .i64 (i:Nat),.int .i64 0,.bool false,.slice none 0 0,.slice none 0 0] 76)=w56 at *
     clear hW56 HM_w55
     have x0:=(HM_w56.out.at 1 rfl).cell (i:=0) rfl
     have x1:=(HM_w56.out.at 1 rfl).cell (i:=1) rfl
     have x2:=(HM_w56.out.at 1 rfl).cell (i:=2) rfl
     have x3:=(HM_w56.out.at 1 rfl).cell (i:=3) rfl
     have d0:=(HM_w56.out.at 0 rfl).cell (i:=0) rfl
     have d1:=(HM_w56.out.at 0 rfl).cell (i:=1) rfl
     have d2:=(HM_w56.out.at 0 rfl).cell (i:=2) rfl
     have d3:=(HM_w56.out.at 0 rfl).cell (i:=3) rfl
     have d4:=(HM_w56.out.at 0 rfl).cell (i:=4) rfl
     have d5:=(HM_w56.out.at 0 rfl).cell (i:=5) rfl
     have d6:=(HM_w56.out.at 0 rfl).cell (i:=6) rfl
     have d7:=(HM_w56.out.at 0 rfl).cell (i:=7) rfl
     have s0:w56.drew.cell? ⟨w49.heap.size,1,none⟩=some (.int .i64 (xw:Nat))∧w56.drew.cell? ⟨w55.heap.size,0,none⟩=some (.int .i64 2)∧w56.drew.cell? ⟨w55.heap.size,1,none⟩=some (.int .i64 0)∧w56.drew.cell? ⟨w55.heap.size,2,none⟩=some (.int .i64 (xw:Nat))∧w56.drew.cell? ⟨w55.heap.size,3,none⟩=some (.int .i64 (i:Nat))∧w56.drew.cell? ⟨w55.heap.size,4,none⟩=some (.int .i64 0)∧w56.drew.cell? ⟨w55.heap.size,5,none⟩=some (.bool false)∧w56.drew.cell? ⟨w55.heap.size,6,none⟩=some (.slice none 0 0)∧w56.drew.cell? ⟨w55.heap.size,7,none⟩=some (.slice none 0 0):=⟨x1,d0,d1,d2,d3,d4,d5,d6,d7⟩
     have HM0:Hid (MX bm n w w56.drew _ _):=Lib.hid (HM_w56.out.below (below_drewN 1))
     have HM0a:Hid (MX bm n w (w56.alloc (.cells #[.int .i64 2,.int .i64 0,.int .i64 (xw:Nat),.int .i64 (i:Nat),.int .i64 0,.bool false,.slice none 0 0,.slice none 0 0] 76)).drew _ _):=Lib.hid ((HM_w56.out.lay 76 [.int .i64 2,.int .i64 0,.int .i64 (xw:Nat),.int .i64 (i:Nat),.int .i64 0,.bool false,.slice none 0 0,.slice none 0 0]).below (below_drewN 1))
     have hxb:xw≤8:=HX.out.2.1.2.1
     have hne1:w.heap.size≠w49.heap.size:=Nat.ne_of_lt hge_x.out
     have hne2:w.heap.size≠w55.heap.size:=Nat.ne_of_lt hge_d.out
     clear x0 x1 x2 x3 d0 d1 d2 d3 d4 d5 d6 d7
     have s0a:(w56.alloc (.cells #[.int .i64 2,.int .i64 0,.int .i64 (xw:Nat),.int .i64 (i:Nat),.int .i64 0,.bool false,.slice none 0 0,.slice none 0 0] 76)).drew.cell? ⟨w49.heap.size,1,none⟩=some (.int .i64 (xw:Nat))∧(w56.alloc (.cells #[.int .i64 2,.int .i64 0,.int .i64 (xw:Nat),.int .i64 (i:Nat),.int .i64 0,.bool false,.slice none 0 0,.slice none 0 0] 76)).drew.cell? ⟨w55.heap.size,0,none⟩=some (.int .i64 2)∧(w56.alloc (.cells #[.int .i64 2,.int .i64 0,.int .i64 (xw:Nat),.int .i64 (i:Nat),.int .i64 0,.bool false,.slice none 0 0,.slice none 0 0] 76)).drew.cell? ⟨w55.heap.size,1,none⟩=some (.int .i64 0)∧(w56.alloc (.cells #[.int .i64 2,.int .i64 0,.int .i64 (xw:Nat),.int .i64 (i:Nat),.int .i64 0,.bool false,.slice none 0 0,.slice none 0 0] 76)).drew.cell? ⟨w55.heap.size,2,none⟩=some (.int .i64 (xw:Nat))∧(w56.alloc (.cells #[.int .i64 2,.int .i64 0,.int .i64 (xw:Nat),.int .i64 (i:Nat),.int .i64 0,.bool false,.slice none 0 0,.slice none 0 0] 76)).drew.cell? ⟨w55.heap.size,3,none⟩=some (.int .i64 (i:Nat))∧(w56.alloc (.cells #[.int .i64 2,.int .i64 0,.int .i64 (xw:Nat),.int .i64 (i:Nat),.int .i64 0,.bool false,.slice none 0 0,.slice none 0 0] 76)).drew.cell? ⟨w55.heap.size,4,none⟩=some (.int .i64 0)∧(w56.alloc (.cells #[.int .i64 2,.int .i64 0,.int .i64 (xw:Nat),.int .i64 (i:Nat),.int .i64 0,.bool false,.slice none 0 0,.slice none 0 0] 76)).drew.cell? ⟨w55.heap.size,5,none⟩=some (.bool false)∧(w56.alloc (.cells #[.int .i64 2,.int .i64 0,.int .i64 (xw:Nat),.int .i64 (i:Nat),.int .i64 0,.bool false,.slice none 0 0,.slice none 0 0] 76)).drew.cell? ⟨w55.heap.size,6,none⟩=some (.slice none 0 0)∧(w56.alloc (.cells #[.int .i64 2,.int .i64 0,.int .i64 (xw:Nat),.int .i64 (i:Nat),.int .i64 0,.bool false,.slice none 0 0,.slice none 0 0] 76)).drew.cell? ⟨w55.heap.size,7,none⟩=some (.slice none 0 0):=⟨(ca (W:=w56) s0.1 _),(ca (W:=w56) s0.2.1 _),(ca (W:=w56) s0.2.2.1 _),(ca (W:=w56) s0.2.2.2.1 _),(ca (W:=w56) s0.2.2.2.2.1 _),(ca (W:=w56) s0.2.2.2.2.2.1 _),(ca (W:=w56) s0.2.2.2.2.2.2.1 _),(ca (W:=w56) s0.2.2.2.2.2.2.2.1 _),(ca (W:=w56) s0.2.2.2.2.2.2.2.2 _)⟩
     go_region_held3 (λ w'=>w'.cell? ⟨w49.heap.size,1,none⟩=some (.int .i64 (xw:Nat))∧w'.cell? ⟨w55.heap.size,0,none⟩=some (.int .i64 2)∧w'.cell? ⟨w55.heap.size,1,none⟩=some (.int .i64 0)∧w'.cell? ⟨w55.heap.size,2,none⟩=some (.int .i64 (xw:Nat))∧w'.cell? ⟨w55.heap.size,3,none⟩=some (.int .i64 (i:Nat))∧w'.cell? ⟨w55.heap.size,4,none⟩=some (.int .i64 0)∧w'.cell? ⟨w55.heap.size,5,none⟩=some (.bool false)∧w'.cell? ⟨w55.heap.size,6,none⟩=some (.slice none 0 0)∧w'.cell? ⟨w55.heap.size,7,none⟩=some (.slice none 0 0))
      (first | (with_reducible assumption) | (with_reducible exact ⟨far8 hne1 s3.1 _ _ _ _ _ _ _ _,far8 hne2 s3.2.1 _ _ _ _ _ _ _ _,far8 hne2 s3.2.2.1 _ _ _ _ _ _ _ _,far8 hne2 s3.2.2.2.1 _ _ _ _ _ _ _ _,far8 hne2 s3.2.2.2.2.1 _ _ _ _ _ _ _ _,far8 hne2 s3.2.2.2.2.2.1 _ _ _ _ _ _ _ _,far8 hne2 s3.2.2.2.2.2.2.1 _ _ _ _ _ _ _ _,far8 hne2 s3.2.2.2.2.2.2.2.1 _ _ _ _ _ _ _ _,far8 hne2 s3.2.2.2.2.2.2.2.2 _ _ _ _ _ _ _ _⟩))
      (first
       | (go_at_call 11;have hca:=next_any HM0.out.maker xw (by omega) (by omega);with_reducible refine hca.mono ?_;clear hca;rintro e w2 ⟨q,hlq,rfl,hk2,hu2⟩;have HM2:=Lib.hid (HM0.out.call hk2 hu2);have HM3:Hid (MX bm n w (w2.alloc (.cells #[.int .i64 2,.int .i64 0,.int .i64 (xw:Nat),.int .i64 (i:Nat),.int .i64 0,.bool false,.slice none 0 0,.slice none 0 0] 76)) _ _):=Lib.hid (HM2.out.lay 76 [.int .i64 2,.int .i64 0,.int .i64 (xw:Nat),.int .i64 (i:Nat),.int .i64 0,.bool false,.slice none 0 0,.slice none 0 0]);have hgs:=Lib.hid HM2.out.big;have kx:=λ (uz:Value) (hz:w56.drew.cell? ⟨w49.heap.size,1,none⟩=some uz)=>hu2.cell hz (λ h=>by have h1:=HM0.out.lt;have h2:=hge_x.out;have h3:w49.heap.size=bm:=h;omega);have kd:=λ (iz:Nat) (uz:Value) (hz:w56.drew.cell? ⟨w55.heap.size,iz,none⟩=some uz)=>hu2.cell hz (λ h=>by have h1:=HM0.out.lt;have h2:=hge_d.out;have h3:w55.heap.size=bm:=h;omega);have s2:=an (kx _ s0.1) <| an (kd _ _ s0.2.1) <| an (kd _ _ s0.2.2.1) <| an (kd _ _ s0.2.2.2.1) <| an (kd _ _ s0.2.2.2.2.1) <| an (kd _ _ s0.2.2.2.2.2.1) <| an (kd _ _ s0.2.2.2.2.2.2.1) <| an (kd _ _ s0.2.2.2.2.2.2.2.1) (kd _ _ s0.2.2.2.2.2.2.2.2);have ko:=λ (az:Addr) (uz:Value) (hz:w2.cell? az=some uz)=>ca hz (.cells #[.int .i64 2,.int .i64 0,.int .i64 (xw:Nat),.int .i64 (i:Nat),.int .i64 0,.bool false,.slice none 0 0,.slice none 0 0] 76);have s2w:=an (ko _ _ s2.1) <| an (ko _ _ s2.2.1) <| an (ko _ _ s2.2.2.1) <| an (ko _ _ s2.2.2.2.1) <| an (ko _ _ s2.2.2.2.2.1) <| an (ko _ _ s2.2.2.2.2.2.1) <| an (ko _ _ s2.2.2.2.2.2.2.1) <| an (ko _ _ s2.2.2.2.2.2.2.2.1) (ko _ _ s2.2.2.2.2.2.2.2.2);clear hk2 hu2 kx kd ko)
       | (go_at_call 11;have hca:=next_any HM0a.out.maker xw (by omega) (by omega);with_reducible refine hca.mono ?_;clear hca;rintro e w3 ⟨q,hlq,rfl,hk2,hu2⟩;have HM3:=Lib.hid (HM0a.out.call hk2 hu2);have hgs:=Lib.hid HM0.out.big;have kx:=λ (uz:Value) (hz:(w56.alloc (.cells #[.int .i64 2,.int .i64 0,.int .i64 (xw:Nat),.int .i64 (i:Nat),.int .i64 0,.bool false,.slice none 0 0,.slice none 0 0] 76)).drew.cell? ⟨w49.heap.size,1,none⟩=some uz)=>hu2.cell hz (λ h=>by have h1:=HM0.out.lt;have h2:=hge_x.out;have h3:w49.heap.size=bm:=h;omega);have kd:=λ (iz:Nat) (uz:Value) (hz:(w56.alloc (.cells #[.int .i64 2,.int .i64 0,.int .i64 (xw:Nat),.int .i64 (i:Nat),.int .i64 0,.bool false,.slice none 0 0,.slice none 0 0] 76)).drew.cell? ⟨w55.heap.size,iz,none⟩=some uz)=>hu2.cell hz (λ h=>by have h1:=HM0.out.lt;have h2:=hge_d.out;have h3:w55.heap.size=bm:=h;omega);have s2a:=an (kx _ s0a.1) <| an (kd _ _ s0a.2.1) <| an (kd _ _ s0a.2.2.1) <| an (kd _ _ s0a.2.2.2.1) <| an (kd _ _ s0a.2.2.2.2.1) <| an (kd _ _ s0a.2.2.2.2.2.1) <| an (kd _ _ s0a.2.2.2.2.2.2.1) <| an (kd _ _ s0a.2.2.2.2.2.2.2.1) (kd _ _ s0a.2.2.2.2.2.2.2.2);clear hk2 hu2 kx kd)
       | (go_at_call 34;have hT4:TR (From (w.heap.size+1)) (w2.alloc (.cells #[.int .i64 2,.int .i64 0,.int .i64 (xw:Nat),.int .i64 (i:Nat),.int .i64 0,.bool false,.slice none 0 0,.slice none 0 0] 76)) _ [.int .i64 5,.int .i64 0,.int .i64 1,.int .i64 0,.int .i64 (q:Nat),.bool false,.slice none 0 0,.slice (some ⟨w2.heap.size,0,none⟩) 1 1]:=HM3.out.over (tr_mk (h:=⟨2,xw,i,0⟩) (a := .nil) (vl := []) ROA.nil (by simp) ROA.nil rfl) (HM3.out.at 0 rfl) hgs.out ⟨5,1,0,q⟩ 0 false;have hca:=wide_any (n:=n) hT4 ⟨λ _=>(by simp),λ h=>(by simp at h),by simp,by simp,by simp,by simp;omega,by simp [TL.len],⟨λ h=>(by simp at h),λ _=>HX.out.2.2,by simp,by have:=HX.out.2.1;simp;omega,by have:=HX.out.2.2;have:=H.out.2.2.1;simp;omega,by simp,by simp [TL.len],trivial,trivial⟩,trivial⟩ m (by have:=H.out.2.2.2.2.1;omega);with_reducible refine hca.mono ?_;clear hca;intro e w4 hR;obtain ⟨⟨tzk,tzw,tzs,tzl⟩,tza,tzo,tzg,tzvp,tzvn,tzvc,tzap,tzan,tzac,rfl,httz,hwtz,hb4⟩:=hR.open;clear hR hT4;have s3:=an (bc hb4 s2w.1) <| an (bc hb4 s2w.2.1) <| an (bc hb4 s2w.2.2.1) <| an (bc hb4 s2w.2.2.2.1) <| an (bc hb4 s2w.2.2.2.2.1) <| an (bc hb4 s2w.2.2.2.2.2.1) <| an (bc hb4 s2w.2.2.2.2.2.2.1) <| an (bc hb4 s2w.2.2.2.2.2.2.2.1) (bc hb4 s2w.2.2.2.2.2.2.2.2);have HM4:=Lib.hid (HM3.out.wide hb4 httz hwtz);obtain ⟨r0,r1,r2,r3,r4,r5,r6,r7⟩:=cells8 (HM4.out.at 3 rfl);obtain ⟨f0,f1,f2,f3,f4,f5,f6,f7⟩:=frz8 (HM4.out.at 3 rfl);clear hb4 httz hwtz)
       | (go_at_call 34;have hT4:TR (From (w.heap.size+1)) w3 _ [.int .i64 5,.int .i64 0,.int .i64 1,.int .i64 0,.int .i64 (q:Nat),.bool false,.slice none 0 0,.slice (some ⟨w56.heap.size,0,none⟩) 1 1]:=HM3.out.over (tr_mk (h:=⟨2,xw,i,0⟩) (a := .nil) (vl := []) ROA.nil (by simp) ROA.nil rfl) (HM3.out.at 0 rfl) hgs.out ⟨5,1,0,q⟩ 0 false;have hca:=wide_any (n:=n) hT4 ⟨λ _=>(by simp),λ h=>(by simp at h),by simp,by simp,by simp,by simp;omega,by simp [TL.len],⟨λ h=>(by simp at h),λ _=>HX.out.2.2,by simp,by have:=HX.out.2.1;simp;omega,by have:=HX.out.2.2;have:=H.out.2.2.1;simp;omega,by simp,by simp [TL.len],trivial,trivial⟩,trivial⟩ m (by have:=H.out.2.2.2.2.1;omega);with_reducible refine hca.mono ?_;clear hca;intro e w4 hR;obtain ⟨⟨tzk,tzw,tzs,tzl⟩,tza,tzo,tzg,tzvp,tzvn,tzvc,tzap,tzan,tzac,rfl,httz,hwtz,hb4⟩:=hR.open;clear hR hT4;have s3:=an (bc hb4 s2a.1) <| an (bc hb4 s2a.2.1) <| an (bc hb4 s2a.2.2.1) <| an (bc hb4 s2a.2.2.2.1) <| an (bc hb4 s2a.2.2.2.2.1) <| an (bc hb4 s2a.2.2.2.2.2.1) <| an (bc hb4 s2a.2.2.2.2.2.2.1) <| an (bc hb4 s2a.2.2.2.2.2.2.2.1) (bc hb4 s2a.2.2.2.2.2.2.2.2);have HM4:=Lib.hid (HM3.out.wide hb4 httz hwtz);obtain ⟨r0,r1,r2,r3,r4,r5,r6,r7⟩:=cells8 (HM4.out.at 3 rfl);obtain ⟨f0,f1,f2,f3,f4,f5,f6,f7⟩:=frz8 (HM4.out.at 3 rfl);clear hb4 httz hwtz)
      )
     all_goals clear s3
     all_goals (
      have e0:=(blk8 (HM4.out.at 3 rfl) (.int .i64 (tzk:Nat)) (.int .i64 tzo) (.int .i64 (tzw:Nat)) (.int .i64 (tzs:Nat)) (.int .i64 (tzl:Nat)) (.bool tzg) (.slice tzvp tzvn tzvc) (.slice tzap tzan tzac)).cell (i:=0) rfl
      have e1:=(blk8 (HM4.out.at 3 rfl) (.int .i64 (tzk:Nat)) (.int .i64 tzo) (.int .i64 (tzw:Nat)) (.int .i64 (tzs:Nat)) (.int .i64 (tzl:Nat)) (.bool tzg) (.slice tzvp tzvn tzvc) (.slice tzap tzan tzac)).cell (i:=1) rfl
      have e2:=(blk8 (HM4.out.at 3 rfl) (.int .i64 (tzk:Nat)) (.int .i64 tzo) (.int .i64 (tzw:Nat)) (.int .i64 (tzs:Nat)) (.int .i64 (tzl:Nat)) (.bool tzg) (.slice tzvp tzvn tzvc) (.slice tzap tzan tzac)).cell (i:=2) rfl
      have e3:=(blk8 (HM4.out.at 3 rfl) (.int .i64 (tzk:Nat)) (.int .i64 tzo) (.int .i64 (tzw:Nat)) (.int .i64 (tzs:Nat)) (.int .i64 (tzl:Nat)) (.bool tzg) (.slice tzvp tzvn tzvc) (.slice tzap tzan tzac)).cell (i:=3) rfl
      have e4:=(blk8 (HM4.out.at 3 rfl) (.int .i64 (tzk:Nat)) (.int .i64 tzo) (.int .i64 (tzw:Nat)) (.int .i64 (tzs:Nat)) (.int .i64 (tzl:Nat)) (.bool tzg) (.slice tzvp tzvn tzvc) (.slice tzap tzan tzac)).cell (i:=4) rfl
      have e5:=(blk8 (HM4.out.at 3 rfl) (.int .i64 (tzk:Nat)) (.int .i64 tzo) (.int .i64 (tzw:Nat)) (.int .i64 (tzs:Nat)) (.int .i64 (tzl:Nat)) (.bool tzg) (.slice tzvp tzvn tzvc) (.slice tzap tzan tzac)).cell (i:=5) rfl
      have e6:=(blk8 (HM4.out.at 3 rfl) (.int .i64 (tzk:Nat)) (.int .i64 tzo) (.int .i64 (tzw:Nat)) (.int .i64 (tzs:Nat)) (.int .i64 (tzl:Nat)) (.bool tzg) (.slice tzvp tzvn tzvc) (.slice tzap tzan tzac)).cell (i:=6) rfl
      have e7:=(blk8 (HM4.out.at 3 rfl) (.int .i64 (tzk:Nat)) (.int .i64 tzo) (.int .i64 (tzw:Nat)) (.int .i64 (tzs:Nat)) (.int .i64 (tzl:Nat)) (.bool tzg) (.slice tzvp tzvn tzvc) (.slice tzap tzan tzac)).cell (i:=7) rfl
      clear r0 r1 r2 r3 r4 r5 r6 r7 f0 f1 f2 f3 f4 f5 f6 f7
      go_wp2_with fail
      exact bodyPost_ret (v := .agg #[.int .i64 (tzk:Nat),.int .i64 tzo,.int .i64 (tzw:Nat),.int .i64 (tzs:Nat),.int .i64 (tzl:Nat),.bool tzg,.slice tzvp tzvn tzvc,.slice tzap tzan tzac]) (by simp [results,Try.results12,go_sem,e0,e1,e2,e3,e4,e5,e6,e7]) rfl (HM4.out.fin (cs := [.int .i64 (tzk:Nat),.int .i64 tzo,.int .i64 (tzw:Nat),.int .i64 (tzs:Nat),.int .i64 (tzl:Nat),.bool tzg,.slice tzvp tzvn tzvc,.slice tzap tzan tzac]) (HM4.out.t 0 rfl).1 (HM4.out.t 0 rfl).2 (upd8 _ _ _ _ _ _ _ _ _ _)))
    ·
     have h1i:¬(1:Int)<(xw:Int):=by omega
     clear h1w
     go_wp2_with fail
     have HM_w57:=Lib.hid (HM_w49.out.lay 69 [.string xn,.int .i64 (xw:Nat),.bool xg,.int .i64 (xq:Nat)])
     have hge_x:=Lib.hid (HM_w49.out.big)
     generalize hW57:w49.alloc (.cells #[.string xn,.int .i64 (xw:Nat),.bool xg,.int .i64 (xq:Nat)] 69)=w57 at *
     clear hW57 HM_w49
     have HM_w58:=Lib.hid (HM_w57.out.lay 76 [.int .i64 2,.int .i64 0,.int .i64 (xw:Nat),.int .i64 (i:Nat),.int .i64 0,.bool false,.slice none 0 0,.slice none 0 0])
     have hge_d:=Lib.hid (HM_w57.out.big)
     generalize hW58:w57.alloc (.cells #[.int .i64 2,.int .i64 0,.int .i64 (xw:Nat),.int .i64 (i:Nat),.int .i64 0,.bool false,.slice none 0 0,.slice none 0 0] 76)=w58 at *
     clear hW58 HM_w57
     have hT59:TR (From (w.heap.size+1)) w58 _ [.int .i64 2,.int .i64 0,.int .i64 (xw:Nat),.int .i64 (i:Nat),.int .i64 0,.bool false,.slice none 0 0,.slice none 0 0]:=tr_mk (h:=⟨2,xw,i,0⟩) (a := .nil) (vl := []) ROA.nil (by simp) ROA.nil rfl
     refine (wide_any (n:=n) hT59 ⟨λ h=>(by simp at h),λ _=>HX.out.2.2,by simp,by have:=HX.out.2.1;simp;omega,by have:=HX.out.2.2;have:=H.out.2.2.1;simp;omega,by simp,by simp [TL.len],trivial,trivial⟩ m (by have:=H.out.2.2.2.2.1;omega)).mono ?_;intro e w59 hR;obtain ⟨⟨tzk,tzw,tzs,tzl⟩,tza,tzo,tzg,tzvp,tzvn,tzvc,tzap,tzan,tzac,rfl,httz,hwtz,hb59⟩:=hR.open;clear hR hT59
     have HM_w59:=Lib.hid (HM_w58.out.wide hb59 httz hwtz);clear hb59 httz hwtz HM_w58
     obtain ⟨r0,r1,r2,r3,r4,r5,r6,r7⟩:=cells8 (HM_w59.out.at 2 rfl);obtain ⟨f0,f1,f2,f3,f4,f5,f6,f7⟩:=frz8 (HM_w59.out.at 2 rfl)
     go_wp2_with fail
     have e0:=(blk8 (HM_w59.out.at 2 rfl) (.int .i64 (tzk:Nat)) (.int .i64 tzo) (.int .i64 (tzw:Nat)) (.int .i64 (tzs:Nat)) (.int .i64 (tzl:Nat)) (.bool tzg) (.slice tzvp tzvn tzvc) (.slice tzap tzan tzac)).cell (i:=0) rfl
     have e1:=(blk8 (HM_w59.out.at 2 rfl) (.int .i64 (tzk:Nat)) (.int .i64 tzo) (.int .i64 (tzw:Nat)) (.int .i64 (tzs:Nat)) (.int .i64 (tzl:Nat)) (.bool tzg) (.slice tzvp tzvn tzvc) (.slice tzap tzan tzac)).cell (i:=1) rfl
     have e2:=(blk8 (HM_w59.out.at 2 rfl) (.int .i64 (tzk:Nat)) (.int .i64 tzo) (.int .i64 (tzw:Nat)) (.int .i64 (tzs:Nat)) (.int .i64 (tzl:Nat)) (.bool tzg) (.slice tzvp tzvn tzvc) (.slice tzap tzan tzac)).cell (i:=2) rfl
     have e3:=(blk8 (HM_w59.out.at 2 rfl) (.int .i64 (tzk:Nat)) (.int .i64 tzo) (.int .i64 (tzw:Nat)) (.int .i64 (tzs:Nat)) (.int .i64 (tzl:Nat)) (.bool tzg) (.slice tzvp tzvn tzvc) (.slice tzap tzan tzac)).cell (i:=3) rfl
     have e4:=(blk8 (HM_w59.out.at 2 rfl) (.int .i64 (tzk:Nat)) (.int .i64 tzo) (.int .i64 (tzw:Nat)) (.int .i64 (tzs:Nat)) (.int .i64 (tzl:Nat)) (.bool tzg) (.slice tzvp tzvn tzvc) (.slice tzap tzan tzac)).cell (i:=4) rfl
     have e5:=(blk8 (HM_w59.out.at 2 rfl) (.int .i64 (tzk:Nat)) (.int .i64 tzo) (.int .i64 (tzw:Nat)) (.int .i64 (tzs:Nat)) (.int .i64 (tzl:Nat)) (.bool tzg) (.slice tzvp tzvn tzvc) (.slice tzap tzan tzac)).cell (i:=5) rfl
     have e6:=(blk8 (HM_w59.out.at 2 rfl) (.int .i64 (tzk:Nat)) (.int .i64 tzo) (.int .i64 (tzw:Nat)) (.int .i64 (tzs:Nat)) (.int .i64 (tzl:Nat)) (.bool tzg) (.slice tzvp tzvn tzvc) (.slice tzap tzan tzac)).cell (i:=6) rfl
     have e7:=(blk8 (HM_w59.out.at 2 rfl) (.int .i64 (tzk:Nat)) (.int .i64 tzo) (.int .i64 (tzw:Nat)) (.int .i64 (tzs:Nat)) (.int .i64 (tzl:Nat)) (.bool tzg) (.slice tzvp tzvn tzvc) (.slice tzap tzan tzac)).cell (i:=7) rfl
     clear r0 r1 r2 r3 r4 r5 r6 r7 f0 f1 f2 f3 f4 f5 f6 f7
     go_wp2_with fail
     exact bodyPost_ret (v := .agg #[.int .i64 (tzk:Nat),.int .i64 tzo,.int .i64 (tzw:Nat),.int .i64 (tzs:Nat),.int .i64 (tzl:Nat),.bool tzg,.slice tzvp tzvn tzvc,.slice tzap tzan tzac]) (by simp [results,Try.results12,go_sem,e0,e1,e2,e3,e4,e5,e6,e7]) rfl (HM_w59.out.fin (cs := [.int .i64 (tzk:Nat),.int .i64 tzo,.int .i64 (tzw:Nat),.int .i64 (tzs:Nat),.int .i64 (tzl:Nat),.bool tzg,.slice tzvp tzvn tzvc,.slice tzap tzan tzac]) ((HM_w59.out.t 0 rfl).1) ((HM_w59.out.t 0 rfl).2) (upd8 _ _ _ _ _ _ _ _ _ _))
  rcases hK0 with rfl | hK0
  ·
   have HIm:Hid (∀ W,Mk bm W→ROA (λ b=>b≠bm) W (.slice (some ⟨b,o,none⟩) N c) 4 l.length (sigCells l)→Calls Try.prog 12 #[.pointer (some ⟨bm,0,none⟩),.slice (some ⟨b,o,none⟩) N c,.int .i64 (m:Nat),.int .i64 d] W (MakeR bm n W)):=Lib.hid (λ W hm hs=>(HW.out.2.resolve_left (λ h=>absurd (HKd.out h) (by omega))) W m (by exact H.out.2.2.2.1) (by exact H.out.2.2.2.2.1) hm hs)
   go_wp2_with fail
   refine (next_any HM_w1.out.maker 2 (by omega) (by omega)).mono ?_;rintro e w60 ⟨r,hlr,rfl,hk60,hu60⟩
   have HM_w60:=Lib.hid (HM_w1.out.call hk60 hu60);clear hk60 hu60 HM_w1
   go_wp2_with fail
   refine (HIm.out _ HM_w60.out.maker (HS.out.1 _ HM_w60.out.up)).mono ?_;intro e w61 hR;obtain ⟨⟨tak,taw,tas,tal⟩,taa,tao,tag,tavp,tavn,tavc,taap,taan,taac,rfl,htta,hwta,hk61,hu61⟩:=hR.open;clear hR;have HM_w61:=Lib.hid (HM_w60.out.tree hu61 hk61 htta hwta);clear hk61 hu61 htta hwta
   clear HM_w60
   have HM3:Hid (MX bm n w (w61.alloc (.cells #[.int .i64 (tak:Nat),.int .i64 tao,.int .i64 (taw:Nat),.int .i64 (tas:Nat),.int .i64 (tal:Nat),.bool tag,.slice tavp tavn tavc,.slice taap taan taac] 76)) _ _):=Lib.hid (HM_w61.out.lay 76 [.int .i64 (tak:Nat),.int .i64 tao,.int .i64 (taw:Nat),.int .i64 (tas:Nat),.int .i64 (tal:Nat),.bool tag,.slice tavp tavn tavc,.slice taap taan taac])
   have hgs:=Lib.hid HM_w61.out.big
   have r0:(w61.alloc (.cells #[.int .i64 (tak:Nat),.int .i64 tao,.int .i64 (taw:Nat),.int .i64 (tas:Nat),.int .i64 (tal:Nat),.bool tag,.slice tavp tavn tavc,.slice taap taan taac] 76)).cell? ⟨w.heap.size,0,none⟩=some (.int .i64 0):=(HM3.out.at 1 rfl).cell (i:=0) rfl
   have r1:(w61.alloc (.cells #[.int .i64 (tak:Nat),.int .i64 tao,.int .i64 (taw:Nat),.int .i64 (tas:Nat),.int .i64 (tal:Nat),.bool tag,.slice tavp tavn tavc,.slice taap taan taac] 76)).cell? ⟨w.heap.size,1,none⟩=some (.int .i64 0):=(HM3.out.at 1 rfl).cell (i:=1) rfl
   have r2:(w61.alloc (.cells #[.int .i64 (tak:Nat),.int .i64 tao,.int .i64 (taw:Nat),.int .i64 (tas:Nat),.int .i64 (tal:Nat),.bool tag,.slice tavp tavn tavc,.slice taap taan taac] 76)).cell? ⟨w.heap.size,2,none⟩=some (.int .i64 0):=(HM3.out.at 1 rfl).cell (i:=2) rfl
   have r3:(w61.alloc (.cells #[.int .i64 (tak:Nat),.int .i64 tao,.int .i64 (taw:Nat),.int .i64 (tas:Nat),.int .i64 (tal:Nat),.bool tag,.slice tavp tavn tavc,.slice taap taan taac] 76)).cell? ⟨w.heap.size,3,none⟩=some (.int .i64 0):=(HM3.out.at 1 rfl).cell (i:=3) rfl
   have r4:(w61.alloc (.cells #[.int .i64 (tak:Nat),.int .i64 tao,.int .i64 (taw:Nat),.int .i64 (tas:Nat),.int .i64 (tal:Nat),.bool tag,.slice tavp tavn tavc,.slice taap taan taac] 76)).cell? ⟨w.heap.size,4,none⟩=some (.int .i64 0):=(HM3.out.at 1 rfl).cell (i:=4) rfl
   have r5:(w61.alloc (.cells #[.int .i64 (tak:Nat),.int .i64 tao,.int .i64 (taw:Nat),.int .i64 (tas:Nat),.int .i64 (tal:Nat),.bool tag,.slice tavp tavn tavc,.slice taap taan taac] 76)).cell? ⟨w.heap.size,5,none⟩=some (.bool false):=(HM3.out.at 1 rfl).cell (i:=5) rfl
   have r6:(w61.alloc (.cells #[.int .i64 (tak:Nat),.int .i64 tao,.int .i64 (taw:Nat),.int .i64 (tas:Nat),.int .i64 (tal:Nat),.bool tag,.slice tavp tavn tavc,.slice taap taan taac] 76)).cell? ⟨w.heap.size,6,none⟩=some (.slice none 0 0):=(HM3.out.at 1 rfl).cell (i:=6) rfl
   have r7:(w61.alloc (.cells #[.int .i64 (tak:Nat),.int .i64 tao,.int .i64 (taw:Nat),.int .i64 (tas:Nat),.int .i64 (tal:Nat),.bool tag,.slice tavp tavn tavc,.slice taap taan taac] 76)).cell? ⟨w.heap.size,7,none⟩=some (.slice none 0 0):=(HM3.out.at 1 rfl).cell (i:=7) rfl
   have f0:(w61.alloc (.cells #[.int .i64 (tak:Nat),.int .i64 tao,.int .i64 (taw:Nat),.int .i64 (tas:Nat),.int .i64 (tal:Nat),.bool tag,.slice tavp tavn tavc,.slice taap taan taac] 76)).frozen? ⟨w.heap.size,0,none⟩=false:=(HM3.out.at 1 rfl).frz 0
   have f1:(w61.alloc (.cells #[.int .i64 (tak:Nat),.int .i64 tao,.int .i64 (taw:Nat),.int .i64 (tas:Nat),.int .i64 (tal:Nat),.bool tag,.slice tavp tavn tavc,.slice taap taan taac] 76)).frozen? ⟨w.heap.size,1,none⟩=false:=(HM3.out.at 1 rfl).frz 1
   have f2:(w61.alloc (.cells #[.int .i64 (tak:Nat),.int .i64 tao,.int .i64 (taw:Nat),.int .i64 (tas:Nat),.int .i64 (tal:Nat),.bool tag,.slice tavp tavn tavc,.slice taap taan taac] 76)).frozen? ⟨w.heap.size,2,none⟩=false:=(HM3.out.at 1 rfl).frz 2
   have f3:(w61.alloc (.cells #[.int .i64 (tak:Nat),.int .i64 tao,.int .i64 (taw:Nat),.int .i64 (tas:Nat),.int .i64 (tal:Nat),.bool tag,.slice tavp tavn tavc,.slice taap taan taac] 76)).frozen? ⟨w.heap.size,3,none⟩=false:=(HM3.out.at 1 rfl).frz 3
   have f4:(w61.alloc (.cells #[.int .i64 (tak:Nat),.int .i64 tao,.int .i64 (taw:Nat),.int .i64 (tas:Nat),.int .i64 (tal:Nat),.bool tag,.slice tavp tavn tavc,.slice taap taan taac] 76)).frozen? ⟨w.heap.size,4,none⟩=false:=(HM3.out.at 1 rfl).frz 4
   have f5:(w61.alloc (.cells #[.int .i64 (tak:Nat),.int .i64 tao,.int .i64 (taw:Nat),.int .i64 (tas:Nat),.int .i64 (tal:Nat),.bool tag,.slice tavp tavn tavc,.slice taap taan taac] 76)).frozen? ⟨w.heap.size,5,none⟩=false:=(HM3.out.at 1 rfl).frz 5
   have f6:(w61.alloc (.cells #[.int .i64 (tak:Nat),.int .i64 tao,.int .i64 (taw:Nat),.int .i64 (tas:Nat),.int .i64 (tal:Nat),.bool tag,.slice tavp tavn tavc,.slice taap taan taac] 76)).frozen? ⟨w.heap.size,6,none⟩=false:=(HM3.out.at 1 rfl).frz 6
   have f7:(w61.alloc (.cells #[.int .i64 (tak:Nat),.int .i64 tao,.int .i64 (taw:Nat),.int .i64 (tas:Nat),.int .i64 (tal:Nat),.bool tag,.slice tavp tavn tavc,.slice taap taan taac] 76)).frozen? ⟨w.heap.size,7,none⟩=false:=(HM3.out.at 1 rfl).frz 7
   go_wp2_with fail
   have e0:=(blk8 (HM3.out.at 1 rfl) (.int .i64 6) (.int .i64 (r:Nat)) (.int .i64 (m:Nat)) (.int .i64 0) (.int .i64 0) (.bool false) (.slice none 0 0) (.slice (some ⟨w61.heap.size,0,none⟩) 1 1)).cell (i:=0) rfl
   have e1:=(blk8 (HM3.out.at 1 rfl) (.int .i64 6) (.int .i64 (r:Nat)) (.int .i64 (m:Nat)) (.int .i64 0) (.int .i64 0) (.bool false) (.slice none 0 0) (.slice (some ⟨w61.heap.size,0,none⟩) 1 1)).cell (i:=1) rfl
   have e2:=(blk8 (HM3.out.at 1 rfl) (.int .i64 6) (.int .i64 (r:Nat)) (.int .i64 (m:Nat)) (.int .i64 0) (.int .i64 0) (.bool false) (.slice none 0 0) (.slice (some ⟨w61.heap.size,0,none⟩) 1 1)).cell (i:=2) rfl
   have e3:=(blk8 (HM3.out.at 1 rfl) (.int .i64 6) (.int .i64 (r:Nat)) (.int .i64 (m:Nat)) (.int .i64 0) (.int .i64 0) (.bool false) (.slice none 0 0) (.slice (some ⟨w61.heap.size,0,none⟩) 1 1)).cell (i:=3) rfl
   have e4:=(blk8 (HM3.out.at 1 rfl) (.int .i64 6) (.int .i64 (r:Nat)) (.int .i64 (m:Nat)) (.int .i64 0) (.int .i64 0) (.bool false) (.slice none 0 0) (.slice (some ⟨w61.heap.size,0,none⟩) 1 1)).cell (i:=4) rfl
   have e5:=(blk8 (HM3.out.at 1 rfl) (.int .i64 6) (.int .i64 (r:Nat)) (.int .i64 (m:Nat)) (.int .i64 0) (.int .i64 0) (.bool false) (.slice none 0 0) (.slice (some ⟨w61.heap.size,0,none⟩) 1 1)).cell (i:=5) rfl
   have e6:=(blk8 (HM3.out.at 1 rfl) (.int .i64 6) (.int .i64 (r:Nat)) (.int .i64 (m:Nat)) (.int .i64 0) (.int .i64 0) (.bool false) (.slice none 0 0) (.slice (some ⟨w61.heap.size,0,none⟩) 1 1)).cell (i:=6) rfl
   have e7:=(blk8 (HM3.out.at 1 rfl) (.int .i64 6) (.int .i64 (r:Nat)) (.int .i64 (m:Nat)) (.int .i64 0) (.int .i64 0) (.bool false) (.slice none 0 0) (.slice (some ⟨w61.heap.size,0,none⟩) 1 1)).cell (i:=7) rfl
   clear r0 r1 r2 r3 r4 r5 r6 r7 f0 f1 f2 f3 f4 f5 f6 f7
   exact bodyPost_ret (v := .agg #[.int .i64 6,.int .i64 (r:Nat),.int .i64 (m:Nat),.int .i64 0,.int .i64 0,.bool false,.slice none 0 0,.slice (some ⟨w61.heap.size,0,none⟩) 1 1]) (by simp [results,Try.results12,go_sem,e0,e1,e2,e3,e4,e5,e6,e7]) rfl (HM3.out.fin (cs := [.int .i64 6,.int .i64 (r:Nat),.int .i64 (m:Nat),.int .i64 0,.int .i64 0,.bool false,.slice none 0 0,.slice (some ⟨w61.heap.size,0,none⟩) 1 1]) (HM3.out.over (HM3.out.t 0 rfl).1 (HM3.out.at 0 rfl) hgs.out ⟨6,m,0,0⟩ (r:Nat) false) (⟨λ h=>(by simp at h),λ h=>(by simp at h),by simp,by have:=H.out.2.2.2.2.1;simp;omega,by simp,by simp,by simp [TL.len],(HM3.out.t 0 rfl).2,trivial⟩) (upd8 _ _ _ _ _ _ _ _ _ _))
  rcases hK0 with rfl | hK0
  ·
   have HIm:Hid (∀ W,Mk bm W→ROA (λ b=>b≠bm) W (.slice (some ⟨b,o,none⟩) N c) 4 l.length (sigCells l)→Calls Try.prog 12 #[.pointer (some ⟨bm,0,none⟩),.slice (some ⟨b,o,none⟩) N c,.int .i64 (m:Nat),.int .i64 d] W (MakeR bm n W)):=Lib.hid (λ W hm hs=>(HW.out.2.resolve_left (λ h=>absurd (HKd.out h) (by omega))) W m (by exact H.out.2.2.2.1) (by exact H.out.2.2.2.2.1) hm hs)
   go_wp2_with fail
   refine (next_any HM_w1.out.maker 13 (by omega) (by omega)).mono ?_;rintro e w62 ⟨r,hlr,rfl,hk62,hu62⟩
   have HM_w62:=Lib.hid (HM_w1.out.call hk62 hu62);clear hk62 hu62 HM_w1
   go_wp2_with fail
   refine (HIm.out _ HM_w62.out.maker (HS.out.1 _ HM_w62.out.up)).mono ?_;intro e w63 hR;obtain ⟨⟨tak,taw,tas,tal⟩,taa,tao,tag,tavp,tavn,tavc,taap,taan,taac,rfl,htta,hwta,hk63,hu63⟩:=hR.open;clear hR;have HM_w63:=Lib.hid (HM_w62.out.tree hu63 hk63 htta hwta);clear hk63 hu63 htta hwta
   clear HM_w62
   go_upto_region 28 with fail
   have HM_w64:=Lib.hid (HM_w63.out.lay 76 [.int .i64 (tak:Nat),.int .i64 tao,.int .i64 (taw:Nat),.int .i64 (tas:Nat),.int .i64 (tal:Nat),.bool tag,.slice tavp tavn tavc,.slice taap taan taac])
   have hge_d:=Lib.hid (HM_w63.out.big)
   generalize hW64:w63.alloc (.cells #[.int .i64 (tak:Nat),.int .i64 tao,.int .i64 (taw:Nat),.int .i64 (tas:Nat),.int .i64 (tal:Nat),.bool tag,.slice tavp tavn tavc,.slice taap taan taac] 76)=w64 at *
   clear hW64 HM_w63
   have hne_d:w.heap.size≠w63.heap.size:=Nat.ne_of_lt hge_d.out
   have s0:w64.drew.cell? ⟨w63.heap.size,0,none⟩=some (.int .i64 (tak:Nat))∧w64.drew.cell? ⟨w63.heap.size,1,none⟩=some (.int .i64 tao)∧w64.drew.cell? ⟨w63.heap.size,2,none⟩=some (.int .i64 (taw:Nat))∧w64.drew.cell? ⟨w63.heap.size,3,none⟩=some (.int .i64 (tas:Nat))∧w64.drew.cell? ⟨w63.heap.size,4,none⟩=some (.int .i64 (tal:Nat))∧w64.drew.cell? ⟨w63.heap.size,5,none⟩=some (.bool tag)∧w64.drew.cell? ⟨w63.heap.size,6,none⟩=some (.slice tavp tavn tavc)∧w64.drew.cell? ⟨w63.heap.size,7,none⟩=some (.slice taap taan taac):=⟨(HM_w64.out.at 0 rfl).cell (i:=0) rfl,(HM_w64.out.at 0 rfl).cell (i:=1) rfl,(HM_w64.out.at 0 rfl).cell (i:=2) rfl,(HM_w64.out.at 0 rfl).cell (i:=3) rfl,(HM_w64.out.at 0 rfl).cell (i:=4) rfl,(HM_w64.out.at 0 rfl).cell (i:=5) rfl,(HM_w64.out.at 0 rfl).cell (i:=6) rfl,(HM_w64.out.at 0 rfl).cell (i:=7) rfl⟩
   have HM0:Hid (MX bm n w w64.drew _ _):=Lib.hid (HM_w64.out.below (below_drewN 1))
   go_region_held3 (λ w'=>w'.cell? ⟨w63.heap.size,0,none⟩=some (.int .i64 (tak:Nat))∧w'.cell? ⟨w63.heap.size,1,none⟩=some (.int .i64 tao)∧w'.cell? ⟨w63.heap.size,2,none⟩=some (.int .i64 (taw:Nat))∧w'.cell? ⟨w63.heap.size,3,none⟩=some (.int .i64 (tas:Nat))∧w'.cell? ⟨w63.heap.size,4,none⟩=some (.int .i64 (tal:Nat))∧w'.cell? ⟨w63.heap.size,5,none⟩=some (.bool tag)∧w'.cell? ⟨w63.heap.size,6,none⟩=some (.slice tavp tavn tavc)∧w'.cell? ⟨w63.heap.size,7,none⟩=some (.slice taap taan taac))
    (first | (with_reducible assumption) | (with_reducible exact ⟨far8 hne_d s2w.1 _ _ _ _ _ _ _ _,far8 hne_d s2w.2.1 _ _ _ _ _ _ _ _,far8 hne_d s2w.2.2.1 _ _ _ _ _ _ _ _,far8 hne_d s2w.2.2.2.1 _ _ _ _ _ _ _ _,far8 hne_d s2w.2.2.2.2.1 _ _ _ _ _ _ _ _,far8 hne_d s2w.2.2.2.2.2.1 _ _ _ _ _ _ _ _,far8 hne_d s2w.2.2.2.2.2.2.1 _ _ _ _ _ _ _ _,far8 hne_d s2w.2.2.2.2.2.2.2 _ _ _ _ _ _ _ _⟩))
    (first
     | (go_at_call 12;have hca:=HIm.out _ HM0.out.maker (HS.out.1 _ HM0.out.up);with_reducible refine hca.mono ?_;clear hca;intro e w2 hR;obtain ⟨⟨tbk,tbw,tbs,tbl⟩,tba,tbo,tbg,tbvp,tbvn,tbvc,tbap,tban,tbac,rfl,httb,hwtb,hk2,hu2⟩:=hR.open;clear hR;have HM2:=Lib.hid (HM0.out.tree hu2 hk2 httb hwtb);have HM3:Hid (MX bm n w (w2.alloc (.cells #[.int .i64 (tak:Nat),.int .i64 tao,.int .i64 (taw:Nat),.int .i64 (tas:Nat),.int .i64 (tal:Nat),.bool tag,.slice tavp tavn tavc,.slice taap taan taac,.int .i64 (tbk:Nat),.int .i64 tbo,.int .i64 (tbw:Nat),.int .i64 (tbs:Nat),.int .i64 (tbl:Nat),.bool tbg,.slice tbvp tbvn tbvc,.slice tbap tban tbac] 76)) _ _):=Lib.hid (HM2.out.lay 76 [.int .i64 (tak:Nat),.int .i64 tao,.int .i64 (taw:Nat),.int .i64 (tas:Nat),.int .i64 (tal:Nat),.bool tag,.slice tavp tavn tavc,.slice taap taan taac,.int .i64 (tbk:Nat),.int .i64 tbo,.int .i64 (tbw:Nat),.int .i64 (tbs:Nat),.int .i64 (tbl:Nat),.bool tbg,.slice tbvp tbvn tbvc,.slice tbap tban tbac]);have hgs:=Lib.hid HM2.out.big;have k_d:=λ (iz:Nat) (uz:Value) (hz:w64.drew.cell? ⟨w63.heap.size,iz,none⟩=some uz)=>hu2.cell hz (λ h=>by have h1:=HM0.out.lt;have h2:=hge_d.out;have h3:w63.heap.size=bm:=h;omega);have s2:=an (k_d _ _ s0.1) <| an (k_d _ _ s0.2.1) <| an (k_d _ _ s0.2.2.1) <| an (k_d _ _ s0.2.2.2.1) <| an (k_d _ _ s0.2.2.2.2.1) <| an (k_d _ _ s0.2.2.2.2.2.1) <| an (k_d _ _ s0.2.2.2.2.2.2.1) (k_d _ _ s0.2.2.2.2.2.2.2);have ko:=λ (az:Addr) (uz:Value) (hz:w2.cell? az=some uz)=>ca hz (.cells #[.int .i64 (tak:Nat),.int .i64 tao,.int .i64 (taw:Nat),.int .i64 (tas:Nat),.int .i64 (tal:Nat),.bool tag,.slice tavp tavn tavc,.slice taap taan taac,.int .i64 (tbk:Nat),.int .i64 tbo,.int .i64 (tbw:Nat),.int .i64 (tbs:Nat),.int .i64 (tbl:Nat),.bool tbg,.slice tbvp tbvn tbvc,.slice tbap tban tbac] 76);have s2w:=an (ko _ _ s2.1) <| an (ko _ _ s2.2.1) <| an (ko _ _ s2.2.2.1) <| an (ko _ _ s2.2.2.2.1) <| an (ko _ _ s2.2.2.2.2.1) <| an (ko _ _ s2.2.2.2.2.2.1) <| an (ko _ _ s2.2.2.2.2.2.2.1) (ko _ _ s2.2.2.2.2.2.2.2);clear hk2 hu2 ko k_d httb hwtb;have HM4:=Lib.hid HM3.out;obtain ⟨r0,r1,r2,r3,r4,r5,r6,r7⟩:=cells8 (HM3.out.at 2 rfl);obtain ⟨f0,f1,f2,f3,f4,f5,f6,f7⟩:=frz8 (HM3.out.at 2 rfl))
    )
   clear s0 s2 s2w
   have e0:=(blk8 (HM4.out.at 2 rfl) (.int .i64 7) (.int .i64 (r:Nat)) (.int .i64 (m:Nat)) (.int .i64 0) (.int .i64 0) (.bool false) (.slice none 0 0) (.slice (some ⟨w2.heap.size,0,none⟩) 2 2)).cell (i:=0) rfl
   have e1:=(blk8 (HM4.out.at 2 rfl) (.int .i64 7) (.int .i64 (r:Nat)) (.int .i64 (m:Nat)) (.int .i64 0) (.int .i64 0) (.bool false) (.slice none 0 0) (.slice (some ⟨w2.heap.size,0,none⟩) 2 2)).cell (i:=1) rfl
   have e2:=(blk8 (HM4.out.at 2 rfl) (.int .i64 7) (.int .i64 (r:Nat)) (.int .i64 (m:Nat)) (.int .i64 0) (.int .i64 0) (.bool false) (.slice none 0 0) (.slice (some ⟨w2.heap.size,0,none⟩) 2 2)).cell (i:=2) rfl
   have e3:=(blk8 (HM4.out.at 2 rfl) (.int .i64 7) (.int .i64 (r:Nat)) (.int .i64 (m:Nat)) (.int .i64 0) (.int .i64 0) (.bool false) (.slice none 0 0) (.slice (some ⟨w2.heap.size,0,none⟩) 2 2)).cell (i:=3) rfl
   have e4:=(blk8 (HM4.out.at 2 rfl) (.int .i64 7) (.int .i64 (r:Nat)) (.int .i64 (m:Nat)) (.int .i64 0) (.int .i64 0) (.bool false) (.slice none 0 0) (.slice (some ⟨w2.heap.size,0,none⟩) 2 2)).cell (i:=4) rfl
   have e5:=(blk8 (HM4.out.at 2 rfl) (.int .i64 7) (.int .i64 (r:Nat)) (.int .i64 (m:Nat)) (.int .i64 0) (.int .i64 0) (.bool false) (.slice none 0 0) (.slice (some ⟨w2.heap.size,0,none⟩) 2 2)).cell (i:=5) rfl
   have e6:=(blk8 (HM4.out.at 2 rfl) (.int .i64 7) (.int .i64 (r:Nat)) (.int .i64 (m:Nat)) (.int .i64 0) (.int .i64 0) (.bool false) (.slice none 0 0) (.slice (some ⟨w2.heap.size,0,none⟩) 2 2)).cell (i:=6) rfl
   have e7:=(blk8 (HM4.out.at 2 rfl) (.int .i64 7) (.int .i64 (r:Nat)) (.int .i64 (m:Nat)) (.int .i64 0) (.int .i64 0) (.bool false) (.slice none 0 0) (.slice (some ⟨w2.heap.size,0,none⟩) 2 2)).cell (i:=7) rfl
   clear r0 r1 r2 r3 r4 r5 r6 r7 f0 f1 f2 f3 f4 f5 f6 f7
   go_wp2_with fail
   exact bodyPost_ret (v := .agg #[.int .i64 7,.int .i64 (r:Nat),.int .i64 (m:Nat),.int .i64 0,.int .i64 0,.bool false,.slice none 0 0,.slice (some ⟨w2.heap.size,0,none⟩) 2 2]) (by simp [results,Try.results12,go_sem,e0,e1,e2,e3,e4,e5,e6,e7]) rfl (HM4.out.fin (cs := [.int .i64 7,.int .i64 (r:Nat),.int .i64 (m:Nat),.int .i64 0,.int .i64 0,.bool false,.slice none 0 0,.slice (some ⟨w2.heap.size,0,none⟩) 2 2]) ((HM3.out.over (TG.app (HM3.out.t 1 rfl).1 (HM3.out.t 0 rfl).1) (HM3.out.at 0 rfl) hgs.out ⟨7,m,0,0⟩ (r:Nat) false)) (⟨λ _=>(by simp [TL.app]),λ h=>(by simp at h),by simp,by have:=H.out.2.2.2.2.1;simp;try omega,by simp,by simp,by simp [TL.app,TL.len],(TL.app_wf (HM3.out.t 1 rfl).2 (HM3.out.t 0 rfl).2),trivial⟩) (upd8 _ _ _ _ _ _ _ _ _ _))
  rcases hK0 with rfl | hK0
  ·
   have HIm:Hid (∀ W,Mk bm W→ROA (λ b=>b≠bm) W (.slice (some ⟨b,o,none⟩) N c) 4 l.length (sigCells l)→Calls Try.prog 12 #[.pointer (some ⟨bm,0,none⟩),.slice (some ⟨b,o,none⟩) N c,.int .i64 (m:Nat),.int .i64 d] W (MakeR bm n W)):=Lib.hid (λ W hm hs=>(HW.out.2.resolve_left (λ h=>absurd (HKd.out h) (by omega))) W m (by exact H.out.2.2.2.1) (by exact H.out.2.2.2.2.1) hm hs)
   go_wp2_with fail
   refine (next_any HM_w1.out.maker 13 (by omega) (by omega)).mono ?_;rintro e w65 ⟨r,hlr,rfl,hk65,hu65⟩
   have HM_w65:=Lib.hid (HM_w1.out.call hk65 hu65);clear hk65 hu65 HM_w1
   go_wp2_with fail
   refine (HIm.out _ HM_w65.out.maker (HS.out.1 _ HM_w65.out.up)).mono ?_;intro e w66 hR;obtain ⟨⟨tak,taw,tas,tal⟩,taa,tao,tag,tavp,tavn,tavc,taap,taan,taac,rfl,htta,hwta,hk66,hu66⟩:=hR.open;clear hR;have HM_w66:=Lib.hid (HM_w65.out.tree hu66 hk66 htta hwta);clear hk66 hu66 htta hwta
   clear HM_w65
   go_upto_region 28 with fail
   have HM_w67:=Lib.hid (HM_w66.out.lay 76 [.int .i64 (tak:Nat),.int .i64 tao,.int .i64 (taw:Nat),.int .i64 (tas:Nat),.int .i64 (tal:Nat),.bool tag,.slice tavp tavn tavc,.slice taap taan taac])
   have hge_d:=Lib.hid (HM_w66.out.big)
   generalize hW67:w66.alloc (.cells #[.int .i64 (tak:Nat),.int .i64 tao,.int .i64 (taw:Nat),.int .i64 (tas:Nat),.int .i64 (tal:Nat),.bool tag,.slice tavp tavn tavc,.slice taap taan taac] 76)=w67 at *
   clear hW67 HM_w66
   have hne_d:w.heap.size≠w66.heap.size:=Nat.ne_of_lt hge_d.out
   have s0:w67.drew.cell? ⟨w66.heap.size,0,none⟩=some (.int .i64 (tak:Nat))∧w67.drew.cell? ⟨w66.heap.size,1,none⟩=some (.int .i64 tao)∧w67.drew.cell? ⟨w66.heap.size,2,none⟩=some (.int .i64 (taw:Nat))∧w67.drew.cell? ⟨w66.heap.size,3,none⟩=some (.int .i64 (tas:Nat))∧w67.drew.cell? ⟨w66.heap.size,4,none⟩=some (.int .i64 (tal:Nat))∧w67.drew.cell? ⟨w66.heap.size,5,none⟩=some (.bool tag)∧w67.drew.cell? ⟨w66.heap.size,6,none⟩=some (.slice tavp tavn tavc)∧w67.drew.cell? ⟨w66.heap.size,7,none⟩=some (.slice taap taan taac):=⟨(HM_w67.out.at 0 rfl).cell (i:=0) rfl,(HM_w67.out.at 0 rfl).cell (i:=1) rfl,(HM_w67.out.at 0 rfl).cell (i:=2) rfl,(HM_w67.out.at 0 rfl).cell (i:=3) rfl,(HM_w67.out.at 0 rfl).cell (i:=4) rfl,(HM_w67.out.at 0 rfl).cell (i:=5) rfl,(HM_w67.out.at 0 rfl).cell (i:=6) rfl,(HM_w67.out.at 0 rfl).cell (i:=7) rfl⟩
   have HM0:Hid (MX bm n w w67.drew _ _):=Lib.hid (HM_w67.out.below (below_drewN 1))
   go_region_held3 (λ w'=>w'.cell? ⟨w66.heap.size,0,none⟩=some (.int .i64 (tak:Nat))∧w'.cell? ⟨w66.heap.size,1,none⟩=some (.int .i64 tao)∧w'.cell? ⟨w66.heap.size,2,none⟩=some (.int .i64 (taw:Nat))∧w'.cell? ⟨w66.heap.size,3,none⟩=some (.int .i64 (tas:Nat))∧w'.cell? ⟨w66.heap.size,4,none⟩=some (.int .i64 (tal:Nat))∧w'.cell? ⟨w66.heap.size,5,none⟩=some (.bool tag)∧w'.cell? ⟨w66.heap.size,6,none⟩=some (.slice tavp tavn tavc)∧w'.cell? ⟨w66.heap.size,7,none⟩=some (.slice taap taan taac))
    (first | (with_reducible assumption) | (with_reducible exact ⟨far8 hne_d s2w.1 _ _ _ _ _ _ _ _,far8 hne_d s2w.2.1 _ _ _ _ _ _ _ _,far8 hne_d s2w.2.2.1 _ _ _ _ _ _ _ _,far8 hne_d s2w.2.2.2.1 _ _ _ _ _ _ _ _,far8 hne_d s2w.2.2.2.2.1 _ _ _ _ _ _ _ _,far8 hne_d s2w.2.2.2.2.2.1 _ _ _ _ _ _ _ _,far8 hne_d s2w.2.2.2.2.2.2.1 _ _ _ _ _ _ _ _,far8 hne_d s2w.2.2.2.2.2.2.2 _ _ _ _ _ _ _ _⟩))
    (first
     | (go_at_call 12;have hca:=HIm.out _ HM0.out.maker (HS.out.1 _ HM0.out.up);with_reducible refine hca.mono ?_;clear hca;intro e w2 hR;obtain ⟨⟨tbk,tbw,tbs,tbl⟩,tba,tbo,tbg,tbvp,tbvn,tbvc,tbap,tban,tbac,rfl,httb,hwtb,hk2,hu2⟩:=hR.open;clear hR;have HM2:=Lib.hid (HM0.out.tree hu2 hk2 httb hwtb);have HM3:Hid (MX bm n w (w2.alloc (.cells #[.int .i64 (tak:Nat),.int .i64 tao,.int .i64 (taw:Nat),.int .i64 (tas:Nat),.int .i64 (tal:Nat),.bool tag,.slice tavp tavn tavc,.slice taap taan taac,.int .i64 (tbk:Nat),.int .i64 tbo,.int .i64 (tbw:Nat),.int .i64 (tbs:Nat),.int .i64 (tbl:Nat),.bool tbg,.slice tbvp tbvn tbvc,.slice tbap tban tbac] 76)) _ _):=Lib.hid (HM2.out.lay 76 [.int .i64 (tak:Nat),.int .i64 tao,.int .i64 (taw:Nat),.int .i64 (tas:Nat),.int .i64 (tal:Nat),.bool tag,.slice tavp tavn tavc,.slice taap taan taac,.int .i64 (tbk:Nat),.int .i64 tbo,.int .i64 (tbw:Nat),.int .i64 (tbs:Nat),.int .i64 (tbl:Nat),.bool tbg,.slice tbvp tbvn tbvc,.slice tbap tban tbac]);have hgs:=Lib.hid HM2.out.big;have k_d:=λ (iz:Nat) (uz:Value) (hz:w67.drew.cell? ⟨w66.heap.size,iz,none⟩=some uz)=>hu2.cell hz (λ h=>by have h1:=HM0.out.lt;have h2:=hge_d.out;have h3:w66.heap.size=bm:=h;omega);have s2:=an (k_d _ _ s0.1) <| an (k_d _ _ s0.2.1) <| an (k_d _ _ s0.2.2.1) <| an (k_d _ _ s0.2.2.2.1) <| an (k_d _ _ s0.2.2.2.2.1) <| an (k_d _ _ s0.2.2.2.2.2.1) <| an (k_d _ _ s0.2.2.2.2.2.2.1) (k_d _ _ s0.2.2.2.2.2.2.2);have ko:=λ (az:Addr) (uz:Value) (hz:w2.cell? az=some uz)=>ca hz (.cells #[.int .i64 (tak:Nat),.int .i64 tao,.int .i64 (taw:Nat),.int .i64 (tas:Nat),.int .i64 (tal:Nat),.bool tag,.slice tavp tavn tavc,.slice taap taan taac,.int .i64 (tbk:Nat),.int .i64 tbo,.int .i64 (tbw:Nat),.int .i64 (tbs:Nat),.int .i64 (tbl:Nat),.bool tbg,.slice tbvp tbvn tbvc,.slice tbap tban tbac] 76);have s2w:=an (ko _ _ s2.1) <| an (ko _ _ s2.2.1) <| an (ko _ _ s2.2.2.1) <| an (ko _ _ s2.2.2.2.1) <| an (ko _ _ s2.2.2.2.2.1) <| an (ko _ _ s2.2.2.2.2.2.1) <| an (ko _ _ s2.2.2.2.2.2.2.1) (ko _ _ s2.2.2.2.2.2.2.2);clear hk2 hu2 ko k_d httb hwtb;have HM4:=Lib.hid HM3.out;obtain ⟨r0,r1,r2,r3,r4,r5,r6,r7⟩:=cells8 (HM3.out.at 2 rfl);obtain ⟨f0,f1,f2,f3,f4,f5,f6,f7⟩:=frz8 (HM3.out.at 2 rfl))
    )
   clear s0 s2 s2w
   have e0:=(blk8 (HM4.out.at 2 rfl) (.int .i64 7) (.int .i64 (r:Nat)) (.int .i64 (m:Nat)) (.int .i64 0) (.int .i64 0) (.bool false) (.slice none 0 0) (.slice (some ⟨w2.heap.size,0,none⟩) 2 2)).cell (i:=0) rfl
   have e1:=(blk8 (HM4.out.at 2 rfl) (.int .i64 7) (.int .i64 (r:Nat)) (.int .i64 (m:Nat)) (.int .i64 0) (.int .i64 0) (.bool false) (.slice none 0 0) (.slice (some ⟨w2.heap.size,0,none⟩) 2 2)).cell (i:=1) rfl
   have e2:=(blk8 (HM4.out.at 2 rfl) (.int .i64 7) (.int .i64 (r:Nat)) (.int .i64 (m:Nat)) (.int .i64 0) (.int .i64 0) (.bool false) (.slice none 0 0) (.slice (some ⟨w2.heap.size,0,none⟩) 2 2)).cell (i:=2) rfl
   have e3:=(blk8 (HM4.out.at 2 rfl) (.int .i64 7) (.int .i64 (r:Nat)) (.int .i64 (m:Nat)) (.int .i64 0) (.int .i64 0) (.bool false) (.slice none 0 0) (.slice (some ⟨w2.heap.size,0,none⟩) 2 2)).cell (i:=3) rfl
   have e4:=(blk8 (HM4.out.at 2 rfl) (.int .i64 7) (.int .i64 (r:Nat)) (.int .i64 (m:Nat)) (.int .i64 0) (.int .i64 0) (.bool false) (.slice none 0 0) (.slice (some ⟨w2.heap.size,0,none⟩) 2 2)).cell (i:=4) rfl
   have e5:=(blk8 (HM4.out.at 2 rfl) (.int .i64 7) (.int .i64 (r:Nat)) (.int .i64 (m:Nat)) (.int .i64 0) (.int .i64 0) (.bool false) (.slice none 0 0) (.slice (some ⟨w2.heap.size,0,none⟩) 2 2)).cell (i:=5) rfl
   have e6:=(blk8 (HM4.out.at 2 rfl) (.int .i64 7) (.int .i64 (r:Nat)) (.int .i64 (m:Nat)) (.int .i64 0) (.int .i64 0) (.bool false) (.slice none 0 0) (.slice (some ⟨w2.heap.size,0,none⟩) 2 2)).cell (i:=6) rfl
   have e7:=(blk8 (HM4.out.at 2 rfl) (.int .i64 7) (.int .i64 (r:Nat)) (.int .i64 (m:Nat)) (.int .i64 0) (.int .i64 0) (.bool false) (.slice none 0 0) (.slice (some ⟨w2.heap.size,0,none⟩) 2 2)).cell (i:=7) rfl
   clear r0 r1 r2 r3 r4 r5 r6 r7 f0 f1 f2 f3 f4 f5 f6 f7
   go_wp2_with fail
   exact bodyPost_ret (v := .agg #[.int .i64 7,.int .i64 (r:Nat),.int .i64 (m:Nat),.int .i64 0,.int .i64 0,.bool false,.slice none 0 0,.slice (some ⟨w2.heap.size,0,none⟩) 2 2]) (by simp [results,Try.results12,go_sem,e0,e1,e2,e3,e4,e5,e6,e7]) rfl (HM4.out.fin (cs := [.int .i64 7,.int .i64 (r:Nat),.int .i64 (m:Nat),.int .i64 0,.int .i64 0,.bool false,.slice none 0 0,.slice (some ⟨w2.heap.size,0,none⟩) 2 2]) ((HM3.out.over (TG.app (HM3.out.t 1 rfl).1 (HM3.out.t 0 rfl).1) (HM3.out.at 0 rfl) hgs.out ⟨7,m,0,0⟩ (r:Nat) false)) (⟨λ _=>(by simp [TL.app]),λ h=>(by simp at h),by simp,by have:=H.out.2.2.2.2.1;simp;try omega,by simp,by simp,by simp [TL.app,TL.len],(TL.app_wf (HM3.out.t 1 rfl).2 (HM3.out.t 0 rfl).2),trivial⟩) (upd8 _ _ _ _ _ _ _ _ _ _))
  rcases hK0 with rfl | hK0
  ·
   have HI3:Hid (∀ W,Mk bm W→ROA (λ b=>b≠bm) W (.slice (some ⟨b,o,none⟩) N c) 4 l.length (sigCells l)→Calls Try.prog 12 #[.pointer (some ⟨bm,0,none⟩),.slice (some ⟨b,o,none⟩) N c,.int .i64 3,.int .i64 d] W (MakeR bm n W)):=Lib.hid (λ W hm hs=>(HW.out.2.resolve_left (λ h=>absurd (HKd.out h) (by omega))) W 3 (by omega) (by omega) hm hs)
   go_wp2_with fail
   refine (next_any HM_w1.out.maker 6 (by omega) (by omega)).mono ?_;rintro e w68 ⟨r,hlr,rfl,hk68,hu68⟩
   have HM_w68:=Lib.hid (HM_w1.out.call hk68 hu68);clear hk68 hu68 HM_w1
   have hr13:IntKind.i64.wrap (13+(r:Int))=((13+r:Nat):Int):=by rw [i64_of (by omega)];omega
   obtain ⟨op,hop⟩:∃ op,13+r=op:=⟨_,rfl⟩
   rw [hop] at hr13;clear hop
   go_wp2_with fail
   refine (HI3.out _ HM_w68.out.maker (HS.out.1 _ HM_w68.out.up)).mono ?_;intro e w69 hR;obtain ⟨⟨tak,taw,tas,tal⟩,taa,tao,tag,tavp,tavn,tavc,taap,taan,taac,rfl,htta,hwta,hk69,hu69⟩:=hR.open;clear hR;have HM_w69:=Lib.hid (HM_w68.out.tree hu69 hk69 htta hwta);clear hk69 hu69 htta hwta
   clear HM_w68
   go_upto_region 32 with fail
   have HM_w70:=Lib.hid (HM_w69.out.lay 76 [.int .i64 (tak:Nat),.int .i64 tao,.int .i64 (taw:Nat),.int .i64 (tas:Nat),.int .i64 (tal:Nat),.bool tag,.slice tavp tavn tavc,.slice taap taan taac])
   have hge_d:=Lib.hid (HM_w69.out.big)
   generalize hW70:w69.alloc (.cells #[.int .i64 (tak:Nat),.int .i64 tao,.int .i64 (taw:Nat),.int .i64 (tas:Nat),.int .i64 (tal:Nat),.bool tag,.slice tavp tavn tavc,.slice taap taan taac] 76)=w70 at *
   clear hW70 HM_w69
   have hne_d:w.heap.size≠w69.heap.size:=Nat.ne_of_lt hge_d.out
   have s0:w70.drew.cell? ⟨w69.heap.size,0,none⟩=some (.int .i64 (tak:Nat))∧w70.drew.cell? ⟨w69.heap.size,1,none⟩=some (.int .i64 tao)∧w70.drew.cell? ⟨w69.heap.size,2,none⟩=some (.int .i64 (taw:Nat))∧w70.drew.cell? ⟨w69.heap.size,3,none⟩=some (.int .i64 (tas:Nat))∧w70.drew.cell? ⟨w69.heap.size,4,none⟩=some (.int .i64 (tal:Nat))∧w70.drew.cell? ⟨w69.heap.size,5,none⟩=some (.bool tag)∧w70.drew.cell? ⟨w69.heap.size,6,none⟩=some (.slice tavp tavn tavc)∧w70.drew.cell? ⟨w69.heap.size,7,none⟩=some (.slice taap taan taac):=⟨(HM_w70.out.at 0 rfl).cell (i:=0) rfl,(HM_w70.out.at 0 rfl).cell (i:=1) rfl,(HM_w70.out.at 0 rfl).cell (i:=2) rfl,(HM_w70.out.at 0 rfl).cell (i:=3) rfl,(HM_w70.out.at 0 rfl).cell (i:=4) rfl,(HM_w70.out.at 0 rfl).cell (i:=5) rfl,(HM_w70.out.at 0 rfl).cell (i:=6) rfl,(HM_w70.out.at 0 rfl).cell (i:=7) rfl⟩
   have HM0:Hid (MX bm n w w70.drew _ _):=Lib.hid (HM_w70.out.below (below_drewN 1))
   go_region_held3 (λ w'=>w'.cell? ⟨w69.heap.size,0,none⟩=some (.int .i64 (tak:Nat))∧w'.cell? ⟨w69.heap.size,1,none⟩=some (.int .i64 tao)∧w'.cell? ⟨w69.heap.size,2,none⟩=some (.int .i64 (taw:Nat))∧w'.cell? ⟨w69.heap.size,3,none⟩=some (.int .i64 (tas:Nat))∧w'.cell? ⟨w69.heap.size,4,none⟩=some (.int .i64 (tal:Nat))∧w'.cell? ⟨w69.heap.size,5,none⟩=some (.bool tag)∧w'.cell? ⟨w69.heap.size,6,none⟩=some (.slice tavp tavn tavc)∧w'.cell? ⟨w69.heap.size,7,none⟩=some (.slice taap taan taac))
    (first | (with_reducible assumption) | (with_reducible exact ⟨far8 hne_d s3.1 _ _ _ _ _ _ _ _,far8 hne_d s3.2.1 _ _ _ _ _ _ _ _,far8 hne_d s3.2.2.1 _ _ _ _ _ _ _ _,far8 hne_d s3.2.2.2.1 _ _ _ _ _ _ _ _,far8 hne_d s3.2.2.2.2.1 _ _ _ _ _ _ _ _,far8 hne_d s3.2.2.2.2.2.1 _ _ _ _ _ _ _ _,far8 hne_d s3.2.2.2.2.2.2.1 _ _ _ _ _ _ _ _,far8 hne_d s3.2.2.2.2.2.2.2 _ _ _ _ _ _ _ _⟩))
    (first
     | (go_at_call 12;have hca:=HI3.out _ HM0.out.maker (HS.out.1 _ HM0.out.up);with_reducible refine hca.mono ?_;clear hca;intro e w2 hR;obtain ⟨⟨tbk,tbw,tbs,tbl⟩,tba,tbo,tbg,tbvp,tbvn,tbvc,tbap,tban,tbac,rfl,httb,hwtb,hk2,hu2⟩:=hR.open;clear hR;have HM2:=Lib.hid (HM0.out.tree hu2 hk2 httb hwtb);have HM3:Hid (MX bm n w (w2.alloc (.cells #[.int .i64 (tak:Nat),.int .i64 tao,.int .i64 (taw:Nat),.int .i64 (tas:Nat),.int .i64 (tal:Nat),.bool tag,.slice tavp tavn tavc,.slice taap taan taac,.int .i64 (tbk:Nat),.int .i64 tbo,.int .i64 (tbw:Nat),.int .i64 (tbs:Nat),.int .i64 (tbl:Nat),.bool tbg,.slice tbvp tbvn tbvc,.slice tbap tban tbac] 76)) _ _):=Lib.hid (HM2.out.lay 76 [.int .i64 (tak:Nat),.int .i64 tao,.int .i64 (taw:Nat),.int .i64 (tas:Nat),.int .i64 (tal:Nat),.bool tag,.slice tavp tavn tavc,.slice taap taan taac,.int .i64 (tbk:Nat),.int .i64 tbo,.int .i64 (tbw:Nat),.int .i64 (tbs:Nat),.int .i64 (tbl:Nat),.bool tbg,.slice tbvp tbvn tbvc,.slice tbap tban tbac]);have hgs:=Lib.hid HM2.out.big;have k_d:=λ (iz:Nat) (uz:Value) (hz:w70.drew.cell? ⟨w69.heap.size,iz,none⟩=some uz)=>hu2.cell hz (λ h=>by have h1:=HM0.out.lt;have h2:=hge_d.out;have h3:w69.heap.size=bm:=h;omega);have s2:=an (k_d _ _ s0.1) <| an (k_d _ _ s0.2.1) <| an (k_d _ _ s0.2.2.1) <| an (k_d _ _ s0.2.2.2.1) <| an (k_d _ _ s0.2.2.2.2.1) <| an (k_d _ _ s0.2.2.2.2.2.1) <| an (k_d _ _ s0.2.2.2.2.2.2.1) (k_d _ _ s0.2.2.2.2.2.2.2);have ko:=λ (az:Addr) (uz:Value) (hz:w2.cell? az=some uz)=>ca hz (.cells #[.int .i64 (tak:Nat),.int .i64 tao,.int .i64 (taw:Nat),.int .i64 (tas:Nat),.int .i64 (tal:Nat),.bool tag,.slice tavp tavn tavc,.slice taap taan taac,.int .i64 (tbk:Nat),.int .i64 tbo,.int .i64 (tbw:Nat),.int .i64 (tbs:Nat),.int .i64 (tbl:Nat),.bool tbg,.slice tbvp tbvn tbvc,.slice tbap tban tbac] 76);have s2w:=an (ko _ _ s2.1) <| an (ko _ _ s2.2.1) <| an (ko _ _ s2.2.2.1) <| an (ko _ _ s2.2.2.2.1) <| an (ko _ _ s2.2.2.2.2.1) <| an (ko _ _ s2.2.2.2.2.2.1) <| an (ko _ _ s2.2.2.2.2.2.2.1) (ko _ _ s2.2.2.2.2.2.2.2);clear hk2 hu2 ko k_d httb hwtb)
     | (go_at_call 34;have hT4:TR (From (w.heap.size+1)) (w2.alloc (.cells #[.int .i64 (tak:Nat),.int .i64 tao,.int .i64 (taw:Nat),.int .i64 (tas:Nat),.int .i64 (tal:Nat),.bool tag,.slice tavp tavn tavc,.slice taap taan taac,.int .i64 (tbk:Nat),.int .i64 tbo,.int .i64 (tbw:Nat),.int .i64 (tbs:Nat),.int .i64 (tbl:Nat),.bool tbg,.slice tbvp tbvn tbvc,.slice tbap tban tbac] 76)) _ [.int .i64 7,.int .i64 (op:Nat),.int .i64 1,.int .i64 0,.int .i64 0,.bool false,.slice none 0 0,.slice (some ⟨w2.heap.size,0,none⟩) 2 2]:=HM3.out.over (TG.app (HM3.out.t 1 rfl).1 (HM3.out.t 0 rfl).1) (HM3.out.at 0 rfl) hgs.out ⟨7,1,0,0⟩ (op:Nat) false;have hca:=wide_any (n:=n) hT4 ⟨λ _=>(by simp [TL.app]),λ h=>(by simp at h),by simp,by have:=H.out.2.2.2.2.1;simp;try omega,by simp,by simp,by simp [TL.app,TL.len],(TL.app_wf (HM3.out.t 1 rfl).2 (HM3.out.t 0 rfl).2),trivial⟩ m (by have:=H.out.2.2.2.2.1;omega);with_reducible refine hca.mono ?_;clear hca;intro e w4 hR;obtain ⟨⟨tzk,tzw,tzs,tzl⟩,tza,tzo,tzg,tzvp,tzvn,tzvc,tzap,tzan,tzac,rfl,httz,hwtz,hb4⟩:=hR.open;clear hR hT4;have s3:=an (bc hb4 s2w.1) <| an (bc hb4 s2w.2.1) <| an (bc hb4 s2w.2.2.1) <| an (bc hb4 s2w.2.2.2.1) <| an (bc hb4 s2w.2.2.2.2.1) <| an (bc hb4 s2w.2.2.2.2.2.1) <| an (bc hb4 s2w.2.2.2.2.2.2.1) (bc hb4 s2w.2.2.2.2.2.2.2);have HM4:=Lib.hid (HM3.out.wide hb4 httz hwtz);obtain ⟨r0,r1,r2,r3,r4,r5,r6,r7⟩:=cells8 (HM4.out.at 2 rfl);obtain ⟨f0,f1,f2,f3,f4,f5,f6,f7⟩:=frz8 (HM4.out.at 2 rfl);clear hb4 httz hwtz)
    )
   clear s0 s2 s2w s3
   have e0:=(blk8 (HM4.out.at 2 rfl) (.int .i64 (tzk:Nat)) (.int .i64 tzo) (.int .i64 (tzw:Nat)) (.int .i64 (tzs:Nat)) (.int .i64 (tzl:Nat)) (.bool tzg) (.slice tzvp tzvn tzvc) (.slice tzap tzan tzac)).cell (i:=0) rfl
   have e1:=(blk8 (HM4.out.at 2 rfl) (.int .i64 (tzk:Nat)) (.int .i64 tzo) (.int .i64 (tzw:Nat)) (.int .i64 (tzs:Nat)) (.int .i64 (tzl:Nat)) (.bool tzg) (.slice tzvp tzvn tzvc) (.slice tzap tzan tzac)).cell (i:=1) rfl
   have e2:=(blk8 (HM4.out.at 2 rfl) (.int .i64 (tzk:Nat)) (.int .i64 tzo) (.int .i64 (tzw:Nat)) (.int .i64 (tzs:Nat)) (.int .i64 (tzl:Nat)) (.bool tzg) (.slice tzvp tzvn tzvc) (.slice tzap tzan tzac)).cell (i:=2) rfl
   have e3:=(blk8 (HM4.out.at 2 rfl) (.int .i64 (tzk:Nat)) (.int .i64 tzo) (.int .i64 (tzw:Nat)) (.int .i64 (tzs:Nat)) (.int .i64 (tzl:Nat)) (.bool tzg) (.slice tzvp tzvn tzvc) (.slice tzap tzan tzac)).cell (i:=3) rfl
   have e4:=(blk8 (HM4.out.at 2 rfl) (.int .i64 (tzk:Nat)) (.int .i64 tzo) (.int .i64 (tzw:Nat)) (.int .i64 (tzs:Nat)) (.int .i64 (tzl:Nat)) (.bool tzg) (.slice tzvp tzvn tzvc) (.slice tzap tzan tzac)).cell (i:=4) rfl
   have e5:=(blk8 (HM4.out.at 2 rfl) (.int .i64 (tzk:Nat)) (.int .i64 tzo) (.int .i64 (tzw:Nat)) (.int .i64 (tzs:Nat)) (.int .i64 (tzl:Nat)) (.bool tzg) (.slice tzvp tzvn tzvc) (.slice tzap tzan tzac)).cell (i:=5) rfl
   have e6:=(blk8 (HM4.out.at 2 rfl) (.int .i64 (tzk:Nat)) (.int .i64 tzo) (.int .i64 (tzw:Nat)) (.int .i64 (tzs:Nat)) (.int .i64 (tzl:Nat)) (.bool tzg) (.slice tzvp tzvn tzvc) (.slice tzap tzan tzac)).cell (i:=6) rfl
   have e7:=(blk8 (HM4.out.at 2 rfl) (.int .i64 (tzk:Nat)) (.int .i64 tzo) (.int .i64 (tzw:Nat)) (.int .i64 (tzs:Nat)) (.int .i64 (tzl:Nat)) (.bool tzg) (.slice tzvp tzvn tzvc) (.slice tzap tzan tzac)).cell (i:=7) rfl
   clear r0 r1 r2 r3 r4 r5 r6 r7 f0 f1 f2 f3 f4 f5 f6 f7
   go_wp2_with fail
   exact bodyPost_ret (v := .agg #[.int .i64 (tzk:Nat),.int .i64 tzo,.int .i64 (tzw:Nat),.int .i64 (tzs:Nat),.int .i64 (tzl:Nat),.bool tzg,.slice tzvp tzvn tzvc,.slice tzap tzan tzac]) (by simp [results,Try.results12,go_sem,e0,e1,e2,e3,e4,e5,e6,e7]) rfl (HM4.out.fin (cs := [.int .i64 (tzk:Nat),.int .i64 tzo,.int .i64 (tzw:Nat),.int .i64 (tzs:Nat),.int .i64 (tzl:Nat),.bool tzg,.slice tzvp tzvn tzvc,.slice tzap tzan tzac]) ((HM4.out.t 0 rfl).1) ((HM4.out.t 0 rfl).2) (upd8 _ _ _ _ _ _ _ _ _ _))
  rcases hK0 with rfl | hK0
  ·
   have HI4:Hid (∀ W,Mk bm W→ROA (λ b=>b≠bm) W (.slice (some ⟨b,o,none⟩) N c) 4 l.length (sigCells l)→Calls Try.prog 12 #[.pointer (some ⟨bm,0,none⟩),.slice (some ⟨b,o,none⟩) N c,.int .i64 4,.int .i64 d] W (MakeR bm n W)):=Lib.hid (λ W hm hs=>(HW.out.2.resolve_left (λ h=>absurd (HKd.out h) (by omega))) W 4 (by omega) (by omega) hm hs)
   have HI3:Hid (∀ W,Mk bm W→ROA (λ b=>b≠bm) W (.slice (some ⟨b,o,none⟩) N c) 4 l.length (sigCells l)→Calls Try.prog 12 #[.pointer (some ⟨bm,0,none⟩),.slice (some ⟨b,o,none⟩) N c,.int .i64 3,.int .i64 d] W (MakeR bm n W)):=Lib.hid (λ W hm hs=>(HW.out.2.resolve_left (λ h=>absurd (HKd.out h) (by omega))) W 3 (by omega) (by omega) hm hs)
   go_wp2_with fail
   refine (HI4.out _ HM_w1.out.maker (HS.out.1 _ HM_w1.out.up)).mono ?_;intro e w71 hR;obtain ⟨⟨tak,taw,tas,tal⟩,taa,tao,tag,tavp,tavn,tavc,taap,taan,taac,rfl,htta,hwta,hk71,hu71⟩:=hR.open;clear hR;have HM_w71:=Lib.hid (HM_w1.out.tree hu71 hk71 htta hwta);clear hk71 hu71 htta hwta
   clear HM_w1
   go_upto_region 35 with fail
   have HM_w72:=Lib.hid (HM_w71.out.lay 76 [.int .i64 (tak:Nat),.int .i64 tao,.int .i64 (taw:Nat),.int .i64 (tas:Nat),.int .i64 (tal:Nat),.bool tag,.slice tavp tavn tavc,.slice taap taan taac])
   have hge_d:=Lib.hid (HM_w71.out.big)
   generalize hW72:w71.alloc (.cells #[.int .i64 (tak:Nat),.int .i64 tao,.int .i64 (taw:Nat),.int .i64 (tas:Nat),.int .i64 (tal:Nat),.bool tag,.slice tavp tavn tavc,.slice taap taan taac] 76)=w72 at *
   clear hW72 HM_w71
   have hne_d:w.heap.size≠w71.heap.size:=Nat.ne_of_lt hge_d.out
   have s0:w72.drew.cell? ⟨w71.heap.size,0,none⟩=some (.int .i64 (tak:Nat))∧w72.drew.cell? ⟨w71.heap.size,1,none⟩=some (.int .i64 tao)∧w72.drew.cell? ⟨w71.heap.size,2,none⟩=some (.int .i64 (taw:Nat))∧w72.drew.cell? ⟨w71.heap.size,3,none⟩=some (.int .i64 (tas:Nat))∧w72.drew.cell? ⟨w71.heap.size,4,none⟩=some (.int .i64 (tal:Nat))∧w72.drew.cell? ⟨w71.heap.size,5,none⟩=some (.bool tag)∧w72.drew.cell? ⟨w71.heap.size,6,none⟩=some (.slice tavp tavn tavc)∧w72.drew.cell? ⟨w71.heap.size,7,none⟩=some (.slice taap taan taac):=⟨(HM_w72.out.at 0 rfl).cell (i:=0) rfl,(HM_w72.out.at 0 rfl).cell (i:=1) rfl,(HM_w72.out.at 0 rfl).cell (i:=2) rfl,(HM_w72.out.at 0 rfl).cell (i:=3) rfl,(HM_w72.out.at 0 rfl).cell (i:=4) rfl,(HM_w72.out.at 0 rfl).cell (i:=5) rfl,(HM_w72.out.at 0 rfl).cell (i:=6) rfl,(HM_w72.out.at 0 rfl).cell (i:=7) rfl⟩
   have HM0:Hid (MX bm n w w72.drew _ _):=Lib.hid (HM_w72.out.below (below_drewN 1))
   go_region_held3 (λ w'=>w'.cell? ⟨w71.heap.size,0,none⟩=some (.int .i64 (tak:Nat))∧w'.cell? ⟨w71.heap.size,1,none⟩=some (.int .i64 tao)∧w'.cell? ⟨w71.heap.size,2,none⟩=some (.int .i64 (taw:Nat))∧w'.cell? ⟨w71.heap.size,3,none⟩=some (.int .i64 (tas:Nat))∧w'.cell? ⟨w71.heap.size,4,none⟩=some (.int .i64 (tal:Nat))∧w'.cell? ⟨w71.heap.size,5,none⟩=some (.bool tag)∧w'.cell? ⟨w71.heap.size,6,none⟩=some (.slice tavp tavn tavc)∧w'.cell? ⟨w71.heap.size,7,none⟩=some (.slice taap taan taac))
    (first | (with_reducible assumption) | (with_reducible exact ⟨far8 hne_d s3.1 _ _ _ _ _ _ _ _,far8 hne_d s3.2.1 _ _ _ _ _ _ _ _,far8 hne_d s3.2.2.1 _ _ _ _ _ _ _ _,far8 hne_d s3.2.2.2.1 _ _ _ _ _ _ _ _,far8 hne_d s3.2.2.2.2.1 _ _ _ _ _ _ _ _,far8 hne_d s3.2.2.2.2.2.1 _ _ _ _ _ _ _ _,far8 hne_d s3.2.2.2.2.2.2.1 _ _ _ _ _ _ _ _,far8 hne_d s3.2.2.2.2.2.2.2 _ _ _ _ _ _ _ _⟩))
    (first
     | (go_at_call 12;have hca:=HI3.out _ HM0.out.maker (HS.out.1 _ HM0.out.up);with_reducible refine hca.mono ?_;clear hca;intro e w2 hR;obtain ⟨⟨tbk,tbw,tbs,tbl⟩,tba,tbo,tbg,tbvp,tbvn,tbvc,tbap,tban,tbac,rfl,httb,hwtb,hk2,hu2⟩:=hR.open;clear hR;have HM2:=Lib.hid (HM0.out.tree hu2 hk2 httb hwtb);have HM3:Hid (MX bm n w (w2.alloc (.cells #[.int .i64 (tak:Nat),.int .i64 tao,.int .i64 (taw:Nat),.int .i64 (tas:Nat),.int .i64 (tal:Nat),.bool tag,.slice tavp tavn tavc,.slice taap taan taac,.int .i64 (tbk:Nat),.int .i64 tbo,.int .i64 (tbw:Nat),.int .i64 (tbs:Nat),.int .i64 (tbl:Nat),.bool tbg,.slice tbvp tbvn tbvc,.slice tbap tban tbac] 76)) _ _):=Lib.hid (HM2.out.lay 76 [.int .i64 (tak:Nat),.int .i64 tao,.int .i64 (taw:Nat),.int .i64 (tas:Nat),.int .i64 (tal:Nat),.bool tag,.slice tavp tavn tavc,.slice taap taan taac,.int .i64 (tbk:Nat),.int .i64 tbo,.int .i64 (tbw:Nat),.int .i64 (tbs:Nat),.int .i64 (tbl:Nat),.bool tbg,.slice tbvp tbvn tbvc,.slice tbap tban tbac]);have hgs:=Lib.hid HM2.out.big;have k_d:=λ (iz:Nat) (uz:Value) (hz:w72.drew.cell? ⟨w71.heap.size,iz,none⟩=some uz)=>hu2.cell hz (λ h=>by have h1:=HM0.out.lt;have h2:=hge_d.out;have h3:w71.heap.size=bm:=h;omega);have s2:=an (k_d _ _ s0.1) <| an (k_d _ _ s0.2.1) <| an (k_d _ _ s0.2.2.1) <| an (k_d _ _ s0.2.2.2.1) <| an (k_d _ _ s0.2.2.2.2.1) <| an (k_d _ _ s0.2.2.2.2.2.1) <| an (k_d _ _ s0.2.2.2.2.2.2.1) (k_d _ _ s0.2.2.2.2.2.2.2);have ko:=λ (az:Addr) (uz:Value) (hz:w2.cell? az=some uz)=>ca hz (.cells #[.int .i64 (tak:Nat),.int .i64 tao,.int .i64 (taw:Nat),.int .i64 (tas:Nat),.int .i64 (tal:Nat),.bool tag,.slice tavp tavn tavc,.slice taap taan taac,.int .i64 (tbk:Nat),.int .i64 tbo,.int .i64 (tbw:Nat),.int .i64 (tbs:Nat),.int .i64 (tbl:Nat),.bool tbg,.slice tbvp tbvn tbvc,.slice tbap tban tbac] 76);have s2w:=an (ko _ _ s2.1) <| an (ko _ _ s2.2.1) <| an (ko _ _ s2.2.2.1) <| an (ko _ _ s2.2.2.2.1) <| an (ko _ _ s2.2.2.2.2.1) <| an (ko _ _ s2.2.2.2.2.2.1) <| an (ko _ _ s2.2.2.2.2.2.2.1) (ko _ _ s2.2.2.2.2.2.2.2);clear hk2 hu2 ko k_d httb hwtb)
     | (go_at_call 34;have hT4:TR (From (w.heap.size+1)) (w2.alloc (.cells #[.int .i64 (tak:Nat),.int .i64 tao,.int .i64 (taw:Nat),.int .i64 (tas:Nat),.int .i64 (tal:Nat),.bool tag,.slice tavp tavn tavc,.slice taap taan taac,.int .i64 (tbk:Nat),.int .i64 tbo,.int .i64 (tbw:Nat),.int .i64 (tbs:Nat),.int .i64 (tbl:Nat),.bool tbg,.slice tbvp tbvn tbvc,.slice tbap tban tbac] 76)) _ [.int .i64 4,.int .i64 0,.int .i64 1,.int .i64 0,.int .i64 0,.bool false,.slice none 0 0,.slice (some ⟨w2.heap.size,0,none⟩) 2 2]:=HM3.out.over (TG.app (HM3.out.t 1 rfl).1 (HM3.out.t 0 rfl).1) (HM3.out.at 0 rfl) hgs.out ⟨4,1,0,0⟩ 0 false;have hca:=wide_any (n:=n) hT4 ⟨λ _=>(by simp [TL.app]),λ h=>(by simp at h),by simp,by have:=H.out.2.2.2.2.1;simp;try omega,by simp,by simp,by simp [TL.app,TL.len],(TL.app_wf (HM3.out.t 1 rfl).2 (HM3.out.t 0 rfl).2),trivial⟩ m (by have:=H.out.2.2.2.2.1;omega);with_reducible refine hca.mono ?_;clear hca;intro e w4 hR;obtain ⟨⟨tzk,tzw,tzs,tzl⟩,tza,tzo,tzg,tzvp,tzvn,tzvc,tzap,tzan,tzac,rfl,httz,hwtz,hb4⟩:=hR.open;clear hR hT4;have s3:=an (bc hb4 s2w.1) <| an (bc hb4 s2w.2.1) <| an (bc hb4 s2w.2.2.1) <| an (bc hb4 s2w.2.2.2.1) <| an (bc hb4 s2w.2.2.2.2.1) <| an (bc hb4 s2w.2.2.2.2.2.1) <| an (bc hb4 s2w.2.2.2.2.2.2.1) (bc hb4 s2w.2.2.2.2.2.2.2);have HM4:=Lib.hid (HM3.out.wide hb4 httz hwtz);obtain ⟨r0,r1,r2,r3,r4,r5,r6,r7⟩:=cells8 (HM4.out.at 2 rfl);obtain ⟨f0,f1,f2,f3,f4,f5,f6,f7⟩:=frz8 (HM4.out.at 2 rfl);clear hb4 httz hwtz)
    )
   clear s0 s2 s2w s3
   have e0:=(blk8 (HM4.out.at 2 rfl) (.int .i64 (tzk:Nat)) (.int .i64 tzo) (.int .i64 (tzw:Nat)) (.int .i64 (tzs:Nat)) (.int .i64 (tzl:Nat)) (.bool tzg) (.slice tzvp tzvn tzvc) (.slice tzap tzan tzac)).cell (i:=0) rfl
   have e1:=(blk8 (HM4.out.at 2 rfl) (.int .i64 (tzk:Nat)) (.int .i64 tzo) (.int .i64 (tzw:Nat)) (.int .i64 (tzs:Nat)) (.int .i64 (tzl:Nat)) (.bool tzg) (.slice tzvp tzvn tzvc) (.slice tzap tzan tzac)).cell (i:=1) rfl
   have e2:=(blk8 (HM4.out.at 2 rfl) (.int .i64 (tzk:Nat)) (.int .i64 tzo) (.int .i64 (tzw:Nat)) (.int .i64 (tzs:Nat)) (.int .i64 (tzl:Nat)) (.bool tzg) (.slice tzvp tzvn tzvc) (.slice tzap tzan tzac)).cell (i:=2) rfl
   have e3:=(blk8 (HM4.out.at 2 rfl) (.int .i64 (tzk:Nat)) (.int .i64 tzo) (.int .i64 (tzw:Nat)) (.int .i64 (tzs:Nat)) (.int .i64 (tzl:Nat)) (.bool tzg) (.slice tzvp tzvn tzvc) (.slice tzap tzan tzac)).cell (i:=3) rfl
   have e4:=(blk8 (HM4.out.at 2 rfl) (.int .i64 (tzk:Nat)) (.int .i64 tzo) (.int .i64 (tzw:Nat)) (.int .i64 (tzs:Nat)) (.int .i64 (tzl:Nat)) (.bool tzg) (.slice tzvp tzvn tzvc) (.slice tzap tzan tzac)).cell (i:=4) rfl
   have e5:=(blk8 (HM4.out.at 2 rfl) (.int .i64 (tzk:Nat)) (.int .i64 tzo) (.int .i64 (tzw:Nat)) (.int .i64 (tzs:Nat)) (.int .i64 (tzl:Nat)) (.bool tzg) (.slice tzvp tzvn tzvc) (.slice tzap tzan tzac)).cell (i:=5) rfl
   have e6:=(blk8 (HM4.out.at 2 rfl) (.int .i64 (tzk:Nat)) (.int .i64 tzo) (.int .i64 (tzw:Nat)) (.int .i64 (tzs:Nat)) (.int .i64 (tzl:Nat)) (.bool tzg) (.slice tzvp tzvn tzvc) (.slice tzap tzan tzac)).cell (i:=6) rfl
   have e7:=(blk8 (HM4.out.at 2 rfl) (.int .i64 (tzk:Nat)) (.int .i64 tzo) (.int .i64 (tzw:Nat)) (.int .i64 (tzs:Nat)) (.int .i64 (tzl:Nat)) (.bool tzg) (.slice tzvp tzvn tzvc) (.slice tzap tzan tzac)).cell (i:=7) rfl
   clear r0 r1 r2 r3 r4 r5 r6 r7 f0 f1 f2 f3 f4 f5 f6 f7
   go_wp2_with fail
   exact bodyPost_ret (v := .agg #[.int .i64 (tzk:Nat),.int .i64 tzo,.int .i64 (tzw:Nat),.int .i64 (tzs:Nat),.int .i64 (tzl:Nat),.bool tzg,.slice tzvp tzvn tzvc,.slice tzap tzan tzac]) (by simp [results,Try.results12,go_sem,e0,e1,e2,e3,e4,e5,e6,e7]) rfl (HM4.out.fin (cs := [.int .i64 (tzk:Nat),.int .i64 tzo,.int .i64 (tzw:Nat),.int .i64 (tzs:Nat),.int .i64 (tzl:Nat),.bool tzg,.slice tzvp tzvn tzvc,.slice tzap tzan tzac]) ((HM4.out.t 0 rfl).1) ((HM4.out.t 0 rfl).2) (upd8 _ _ _ _ _ _ _ _ _ _))
  subst hK0
  ·
   have HI1:Hid (∀ W,Mk bm W→ROA (λ b=>b≠bm) W (.slice (some ⟨b,o,none⟩) N c) 4 l.length (sigCells l)→Calls Try.prog 12 #[.pointer (some ⟨bm,0,none⟩),.slice (some ⟨b,o,none⟩) N c,.int .i64 1,.int .i64 d] W (MakeR bm n W)):=Lib.hid (λ W hm hs=>(HW.out.2.resolve_left (λ h=>absurd (HKd.out h) (by omega))) W 1 (by omega) (by omega) hm hs)
   have HIm:Hid (∀ W,Mk bm W→ROA (λ b=>b≠bm) W (.slice (some ⟨b,o,none⟩) N c) 4 l.length (sigCells l)→Calls Try.prog 12 #[.pointer (some ⟨bm,0,none⟩),.slice (some ⟨b,o,none⟩) N c,.int .i64 (m:Nat),.int .i64 d] W (MakeR bm n W)):=Lib.hid (λ W hm hs=>(HW.out.2.resolve_left (λ h=>absurd (HKd.out h) (by omega))) W m (by exact H.out.2.2.2.1) (by exact H.out.2.2.2.2.1) hm hs)
   go_wp2_with fail
   refine (HI1.out _ HM_w1.out.maker (HS.out.1 _ HM_w1.out.up)).mono ?_;intro e w73 hR;obtain ⟨⟨tak,taw,tas,tal⟩,taa,tao,tag,tavp,tavn,tavc,taap,taan,taac,rfl,htta,hwta,hk73,hu73⟩:=hR.open;clear hR;have HM_w73:=Lib.hid (HM_w1.out.tree hu73 hk73 htta hwta);clear hk73 hu73 htta hwta
   clear HM_w1
   go_upto_region 37 with fail
   have HM_w74:=Lib.hid (HM_w73.out.lay 76 [.int .i64 (tak:Nat),.int .i64 tao,.int .i64 (taw:Nat),.int .i64 (tas:Nat),.int .i64 (tal:Nat),.bool tag,.slice tavp tavn tavc,.slice taap taan taac])
   have hge_d:=Lib.hid (HM_w73.out.big)
   generalize hW74:w73.alloc (.cells #[.int .i64 (tak:Nat),.int .i64 tao,.int .i64 (taw:Nat),.int .i64 (tas:Nat),.int .i64 (tal:Nat),.bool tag,.slice tavp tavn tavc,.slice taap taan taac] 76)=w74 at *
   clear hW74 HM_w73
   go_wp2_with fail
   refine (HIm.out _ HM_w74.out.maker (HS.out.1 _ HM_w74.out.up)).mono ?_;intro e w75 hR;obtain ⟨⟨tbk,tbw,tbs,tbl⟩,tba,tbo,tbg,tbvp,tbvn,tbvc,tbap,tban,tbac,rfl,httb,hwtb,hk75,hu75⟩:=hR.open;clear hR;have HM_w75:=Lib.hid (HM_w74.out.tree hu75 hk75 httb hwtb);clear hk75 hu75 httb hwtb
   clear HM_w74
   go_upto_region 38 with fail
   have HM_w76:=Lib.hid (HM_w75.out.lay 76 [.int .i64 (tbk:Nat),.int .i64 tbo,.int .i64 (tbw:Nat),.int .i64 (tbs:Nat),.int .i64 (tbl:Nat),.bool tbg,.slice tbvp tbvn tbvc,.slice tbap tban tbac])
   have hge_x:=Lib.hid (HM_w75.out.big)
   generalize hW76:w75.alloc (.cells #[.int .i64 (tbk:Nat),.int .i64 tbo,.int .i64 (tbw:Nat),.int .i64 (tbs:Nat),.int .i64 (tbl:Nat),.bool tbg,.slice tbvp tbvn tbvc,.slice tbap tban tbac] 76)=w76 at *
   clear hW76 HM_w75
   have hne_d:w.heap.size≠w73.heap.size:=Nat.ne_of_lt hge_d.out
   have hne_x:w.heap.size≠w75.heap.size:=Nat.ne_of_lt hge_x.out
   have s0:w76.drew.cell? ⟨w73.heap.size,0,none⟩=some (.int .i64 (tak:Nat))∧w76.drew.cell? ⟨w73.heap.size,1,none⟩=some (.int .i64 tao)∧w76.drew.cell? ⟨w73.heap.size,2,none⟩=some (.int .i64 (taw:Nat))∧w76.drew.cell? ⟨w73.heap.size,3,none⟩=some (.int .i64 (tas:Nat))∧w76.drew.cell? ⟨w73.heap.size,4,none⟩=some (.int .i64 (tal:Nat))∧w76.drew.cell? ⟨w73.heap.size,5,none⟩=some (.bool tag)∧w76.drew.cell? ⟨w73.heap.size,6,none⟩=some (.slice tavp tavn tavc)∧w76.drew.cell? ⟨w73.heap.size,7,none⟩=some (.slice taap taan taac)∧w76.drew.cell? ⟨w75.heap.size,0,none⟩=some (.int .i64 (tbk:Nat))∧w76.drew.cell? ⟨w75.heap.size,1,none⟩=some (.int .i64 tbo)∧w76.drew.cell? ⟨w75.heap.size,2,none⟩=some (.int .i64 (tbw:Nat))∧w76.drew.cell? ⟨w75.heap.size,3,none⟩=some (.int .i64 (tbs:Nat))∧w76.drew.cell? ⟨w75.heap.size,4,none⟩=some (.int .i64 (tbl:Nat))∧w76.drew.cell? ⟨w75.heap.size,5,none⟩=some (.bool tbg)∧w76.drew.cell? ⟨w75.heap.size,6,none⟩=some (.slice tbvp tbvn tbvc)∧w76.drew.cell? ⟨w75.heap.size,7,none⟩=some (.slice tbap tban tbac):=⟨(HM_w76.out.at 1 rfl).cell (i:=0) rfl,(HM_w76.out.at 1 rfl).cell (i:=1) rfl,(HM_w76.out.at 1 rfl).cell (i:=2) rfl,(HM_w76.out.at 1 rfl).cell (i:=3) rfl,(HM_w76.out.at 1 rfl).cell (i:=4) rfl,(HM_w76.out.at 1 rfl).cell (i:=5) rfl,(HM_w76.out.at 1 rfl).cell (i:=6) rfl,(HM_w76.out.at 1 rfl).cell (i:=7) rfl,(HM_w76.out.at 0 rfl).cell (i:=0) rfl,(HM_w76.out.at 0 rfl).cell (i:=1) rfl,(HM_w76.out.at 0 rfl).cell (i:=2) rfl,(HM_w76.out.at 0 rfl).cell (i:=3) rfl,(HM_w76.out.at 0 rfl).cell (i:=4) rfl,(HM_w76.out.at 0 rfl).cell (i:=5) rfl,(HM_w76.out.at 0 rfl).cell (i:=6) rfl,(HM_w76.out.at 0 rfl).cell (i:=7) rfl⟩
   have HM0:Hid (MX bm n w w76.drew _ _):=Lib.hid (HM_w76.out.below (below_drewN 1))
   go_region_held3 (λ w'=>w'.cell? ⟨w73.heap.size,0,none⟩=some (.int .i64 (tak:Nat))∧w'.cell? ⟨w73.heap.size,1,none⟩=some (.int .i64 tao)∧w'.cell? ⟨w73.heap.size,2,none⟩=some (.int .i64 (taw:Nat))∧w'.cell? ⟨w73.heap.size,3,none⟩=some (.int .i64 (tas:Nat))∧w'.cell? ⟨w73.heap.size,4,none⟩=some (.int .i64 (tal:Nat))∧w'.cell? ⟨w73.heap.size,5,none⟩=some (.bool tag)∧w'.cell? ⟨w73.heap.size,6,none⟩=some (.slice tavp tavn tavc)∧w'.cell? ⟨w73.heap.size,7,none⟩=some (.slice taap taan taac)∧w'.cell? ⟨w75.heap.size,0,none⟩=some (.int .i64 (tbk:Nat))∧w'.cell? ⟨w75.heap.size,1,none⟩=some (.int .i64 tbo)∧w'.cell? ⟨w75.heap.size,2,none⟩=some (.int .i64 (tbw:Nat))∧w'.cell? ⟨w75.heap.size,3,none⟩=some (.int .i64 (tbs:Nat))∧w'.cell? ⟨w75.heap.size,4,none⟩=some (.int .i64 (tbl:Nat))∧w'.cell? ⟨w75.heap.size,5,none⟩=some (.bool tbg)∧w'.cell? ⟨w75.heap.size,6,none⟩=some (.slice tbvp tbvn tbvc)∧w'.cell? ⟨w75.heap.size,7,none⟩=some (.slice tbap tban tbac))
    (first | (with_reducible assumption) | (with_reducible exact ⟨far8 hne_d s2w.1 _ _ _ _ _ _ _ _,far8 hne_d s2w.2.1 _ _ _ _ _ _ _ _,far8 hne_d s2w.2.2.1 _ _ _ _ _ _ _ _,far8 hne_d s2w.2.2.2.1 _ _ _ _ _ _ _ _,far8 hne_d s2w.2.2.2.2.1 _ _ _ _ _ _ _ _,far8 hne_d s2w.2.2.2.2.2.1 _ _ _ _ _ _ _ _,far8 hne_d s2w.2.2.2.2.2.2.1 _ _ _ _ _ _ _ _,far8 hne_d s2w.2.2.2.2.2.2.2.1 _ _ _ _ _ _ _ _,far8 hne_x s2w.2.2.2.2.2.2.2.2.1 _ _ _ _ _ _ _ _,far8 hne_x s2w.2.2.2.2.2.2.2.2.2.1 _ _ _ _ _ _ _ _,far8 hne_x s2w.2.2.2.2.2.2.2.2.2.2.1 _ _ _ _ _ _ _ _,far8 hne_x s2w.2.2.2.2.2.2.2.2.2.2.2.1 _ _ _ _ _ _ _ _,far8 hne_x s2w.2.2.2.2.2.2.2.2.2.2.2.2.1 _ _ _ _ _ _ _ _,far8 hne_x s2w.2.2.2.2.2.2.2.2.2.2.2.2.2.1 _ _ _ _ _ _ _ _,far8 hne_x s2w.2.2.2.2.2.2.2.2.2.2.2.2.2.2.1 _ _ _ _ _ _ _ _,far8 hne_x s2w.2.2.2.2.2.2.2.2.2.2.2.2.2.2.2 _ _ _ _ _ _ _ _⟩))
    (first
     | (go_at_call 12;have hca:=HIm.out _ HM0.out.maker (HS.out.1 _ HM0.out.up);with_reducible refine hca.mono ?_;clear hca;intro e w2 hR;obtain ⟨⟨tck,tcw,tcs,tcl⟩,tca,tco,tcg,tcvp,tcvn,tcvc,tcap,tcan,tcac,rfl,httc,hwtc,hk2,hu2⟩:=hR.open;clear hR;have HM2:=Lib.hid (HM0.out.tree hu2 hk2 httc hwtc);have HM3:Hid (MX bm n w (w2.alloc (.cells #[.int .i64 (tak:Nat),.int .i64 tao,.int .i64 (taw:Nat),.int .i64 (tas:Nat),.int .i64 (tal:Nat),.bool tag,.slice tavp tavn tavc,.slice taap taan taac,.int .i64 (tbk:Nat),.int .i64 tbo,.int .i64 (tbw:Nat),.int .i64 (tbs:Nat),.int .i64 (tbl:Nat),.bool tbg,.slice tbvp tbvn tbvc,.slice tbap tban tbac,.int .i64 (tck:Nat),.int .i64 tco,.int .i64 (tcw:Nat),.int .i64 (tcs:Nat),.int .i64 (tcl:Nat),.bool tcg,.slice tcvp tcvn tcvc,.slice tcap tcan tcac] 76)) _ _):=Lib.hid (HM2.out.lay 76 [.int .i64 (tak:Nat),.int .i64 tao,.int .i64 (taw:Nat),.int .i64 (tas:Nat),.int .i64 (tal:Nat),.bool tag,.slice tavp tavn tavc,.slice taap taan taac,.int .i64 (tbk:Nat),.int .i64 tbo,.int .i64 (tbw:Nat),.int .i64 (tbs:Nat),.int .i64 (tbl:Nat),.bool tbg,.slice tbvp tbvn tbvc,.slice tbap tban tbac,.int .i64 (tck:Nat),.int .i64 tco,.int .i64 (tcw:Nat),.int .i64 (tcs:Nat),.int .i64 (tcl:Nat),.bool tcg,.slice tcvp tcvn tcvc,.slice tcap tcan tcac]);have hgs:=Lib.hid HM2.out.big;have k_d:=λ (iz:Nat) (uz:Value) (hz:w76.drew.cell? ⟨w73.heap.size,iz,none⟩=some uz)=>hu2.cell hz (λ h=>by have h1:=HM0.out.lt;have h2:=hge_d.out;have h3:w73.heap.size=bm:=h;omega);have k_x:=λ (iz:Nat) (uz:Value) (hz:w76.drew.cell? ⟨w75.heap.size,iz,none⟩=some uz)=>hu2.cell hz (λ h=>by have h1:=HM0.out.lt;have h2:=hge_x.out;have h3:w75.heap.size=bm:=h;omega);have s2:=an (k_d _ _ s0.1) <| an (k_d _ _ s0.2.1) <| an (k_d _ _ s0.2.2.1) <| an (k_d _ _ s0.2.2.2.1) <| an (k_d _ _ s0.2.2.2.2.1) <| an (k_d _ _ s0.2.2.2.2.2.1) <| an (k_d _ _ s0.2.2.2.2.2.2.1) <| an (k_d _ _ s0.2.2.2.2.2.2.2.1) <| an (k_x _ _ s0.2.2.2.2.2.2.2.2.1) <| an (k_x _ _ s0.2.2.2.2.2.2.2.2.2.1) <| an (k_x _ _ s0.2.2.2.2.2.2.2.2.2.2.1) <| an (k_x _ _ s0.2.2.2.2.2.2.2.2.2.2.2.1) <| an (k_x _ _ s0.2.2.2.2.2.2.2.2.2.2.2.2.1) <| an (k_x _ _ s0.2.2.2.2.2.2.2.2.2.2.2.2.2.1) <| an (k_x _ _ s0.2.2.2.2.2.2.2.2.2.2.2.2.2.2.1) (k_x _ _ s0.2.2.2.2.2.2.2.2.2.2.2.2.2.2.2);have ko:=λ (az:Addr) (uz:Value) (hz:w2.cell? az=some uz)=>ca hz (.cells #[.int .i64 (tak:Nat),.int .i64 tao,.int .i64 (taw:Nat),.int .i64 (tas:Nat),.int .i64 (tal:Nat),.bool tag,.slice tavp tavn tavc,.slice taap taan taac,.int .i64 (tbk:Nat),.int .i64 tbo,.int .i64 (tbw:Nat),.int .i64 (tbs:Nat),.int .i64 (tbl:Nat),.bool tbg,.slice tbvp tbvn tbvc,.slice tbap tban tbac,.int .i64 (tck:Nat),.int .i64 tco,.int .i64 (tcw:Nat),.int .i64 (tcs:Nat),.int .i64 (tcl:Nat),.bool tcg,.slice tcvp tcvn tcvc,.slice tcap tcan tcac] 76);have s2w:=an (ko _ _ s2.1) <| an (ko _ _ s2.2.1) <| an (ko _ _ s2.2.2.1) <| an (ko _ _ s2.2.2.2.1) <| an (ko _ _ s2.2.2.2.2.1) <| an (ko _ _ s2.2.2.2.2.2.1) <| an (ko _ _ s2.2.2.2.2.2.2.1) <| an (ko _ _ s2.2.2.2.2.2.2.2.1) <| an (ko _ _ s2.2.2.2.2.2.2.2.2.1) <| an (ko _ _ s2.2.2.2.2.2.2.2.2.2.1) <| an (ko _ _ s2.2.2.2.2.2.2.2.2.2.2.1) <| an (ko _ _ s2.2.2.2.2.2.2.2.2.2.2.2.1) <| an (ko _ _ s2.2.2.2.2.2.2.2.2.2.2.2.2.1) <| an (ko _ _ s2.2.2.2.2.2.2.2.2.2.2.2.2.2.1) <| an (ko _ _ s2.2.2.2.2.2.2.2.2.2.2.2.2.2.2.1) (ko _ _ s2.2.2.2.2.2.2.2.2.2.2.2.2.2.2.2);clear hk2 hu2 ko k_d k_x httc hwtc;have HM4:=Lib.hid HM3.out;obtain ⟨r0,r1,r2,r3,r4,r5,r6,r7⟩:=cells8 (HM3.out.at 3 rfl);obtain ⟨f0,f1,f2,f3,f4,f5,f6,f7⟩:=frz8 (HM3.out.at 3 rfl))
    )
   clear s0 s2 s2w
   have e0:=(blk8 (HM4.out.at 3 rfl) (.int .i64 8) (.int .i64 0) (.int .i64 (m:Nat)) (.int .i64 0) (.int .i64 0) (.bool false) (.slice none 0 0) (.slice (some ⟨w2.heap.size,0,none⟩) 3 3)).cell (i:=0) rfl
   have e1:=(blk8 (HM4.out.at 3 rfl) (.int .i64 8) (.int .i64 0) (.int .i64 (m:Nat)) (.int .i64 0) (.int .i64 0) (.bool false) (.slice none 0 0) (.slice (some ⟨w2.heap.size,0,none⟩) 3 3)).cell (i:=1) rfl
   have e2:=(blk8 (HM4.out.at 3 rfl) (.int .i64 8) (.int .i64 0) (.int .i64 (m:Nat)) (.int .i64 0) (.int .i64 0) (.bool false) (.slice none 0 0) (.slice (some ⟨w2.heap.size,0,none⟩) 3 3)).cell (i:=2) rfl
   have e3:=(blk8 (HM4.out.at 3 rfl) (.int .i64 8) (.int .i64 0) (.int .i64 (m:Nat)) (.int .i64 0) (.int .i64 0) (.bool false) (.slice none 0 0) (.slice (some ⟨w2.heap.size,0,none⟩) 3 3)).cell (i:=3) rfl
   have e4:=(blk8 (HM4.out.at 3 rfl) (.int .i64 8) (.int .i64 0) (.int .i64 (m:Nat)) (.int .i64 0) (.int .i64 0) (.bool false) (.slice none 0 0) (.slice (some ⟨w2.heap.size,0,none⟩) 3 3)).cell (i:=4) rfl
   have e5:=(blk8 (HM4.out.at 3 rfl) (.int .i64 8) (.int .i64 0) (.int .i64 (m:Nat)) (.int .i64 0) (.int .i64 0) (.bool false) (.slice none 0 0) (.slice (some ⟨w2.heap.size,0,none⟩) 3 3)).cell (i:=5) rfl
   have e6:=(blk8 (HM4.out.at 3 rfl) (.int .i64 8) (.int .i64 0) (.int .i64 (m:Nat)) (.int .i64 0) (.int .i64 0) (.bool false) (.slice none 0 0) (.slice (some ⟨w2.heap.size,0,none⟩) 3 3)).cell (i:=6) rfl
   have e7:=(blk8 (HM4.out.at 3 rfl) (.int .i64 8) (.int .i64 0) (.int .i64 (m:Nat)) (.int .i64 0) (.int .i64 0) (.bool false) (.slice none 0 0) (.slice (some ⟨w2.heap.size,0,none⟩) 3 3)).cell (i:=7) rfl
   clear r0 r1 r2 r3 r4 r5 r6 r7 f0 f1 f2 f3 f4 f5 f6 f7
   go_wp2_with fail
   exact bodyPost_ret (v := .agg #[.int .i64 8,.int .i64 0,.int .i64 (m:Nat),.int .i64 0,.int .i64 0,.bool false,.slice none 0 0,.slice (some ⟨w2.heap.size,0,none⟩) 3 3]) (by simp [results,Try.results12,go_sem,e0,e1,e2,e3,e4,e5,e6,e7]) rfl (HM4.out.fin (cs := [.int .i64 8,.int .i64 0,.int .i64 (m:Nat),.int .i64 0,.int .i64 0,.bool false,.slice none 0 0,.slice (some ⟨w2.heap.size,0,none⟩) 3 3]) ((HM3.out.over (TG.app (HM3.out.t 2 rfl).1 (TG.app (HM3.out.t 1 rfl).1 (HM3.out.t 0 rfl).1)) (HM3.out.at 0 rfl) hgs.out ⟨8,m,0,0⟩ 0 false)) (⟨λ _=>(by simp [TL.app]),λ h=>(by simp at h),by simp,by have:=H.out.2.2.2.2.1;simp;try omega,by simp,by simp,by simp [TL.app,TL.len],(TL.app_wf (HM3.out.t 2 rfl).2 (TL.app_wf (HM3.out.t 1 rfl).2 (HM3.out.t 0 rfl).2)),trivial⟩) (upd8 _ _ _ _ _ _ _ _ _ _))
end Go.Proofs.Ytlklleaocbnbcaa
