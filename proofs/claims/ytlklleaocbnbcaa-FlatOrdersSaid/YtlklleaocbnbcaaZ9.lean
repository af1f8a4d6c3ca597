import Derived.Test.YtlklleaocbnbcaaZ8
namespace Go.Proofs.Ytlklleaocbnbcaa
set_option linter.unusedVariables false
open Go.RowKit
def UseR (w:World) (n:Nat) (u:Us) (e:Ending) (w':World):Prop:=∃ g V b',e = .returned (.agg #[usV g n])∧w.heap.size≤b'∧UsM b' g w' u V∧Below w.heap.size w w'
set_option maxRecDepth 100000 in
set_option maxHeartbeats 8000000 in
theorem writes_any {B:Nat} {w:World} {p:Option Addr} {c:Nat} {l:List Sg} {body:SL} {pb:Option Addr} {cb:Nat} {bc:List Value} {v1 v2 v3 v4 v5 v6 kv q1 q2 q3:Value} (hB:B≤w.heap.size) (hs:SgsM B w p c l) (hw:body.wf l.length) (hl:body.len≤1000000)
  (hr:ROA (λ k=>k<B) w (.slice pb body.len cb) 16 body.len bc) (hb:SR (λ k=>k<B) w body bc):Calls Try.prog 15 #[.agg #[.slice p l.length c,v1,v2,v3,v4,v5,v6],.agg #[kv,q1,q2,q3,.slice pb body.len cb]] w (UseR w l.length (writesP (sizes l) kAll body)):=by
 obtain ⟨N,hN⟩:∃ N,l.length=N:=⟨_,rfl⟩
 obtain ⟨bn,hbn⟩:∃ n,body.len=n:=⟨_,rfl⟩
 have hN8:=hs.le
 have hsN:(sizes l).length=N:=by rw [←hN];simp [sizes]
 have hfun:∀ (W:World) (g b':Nat) (V:Nat→Value),w.heap.size≤b'→UsM b' g W (List.replicate N []) V→Below w.heap.size w W→Calls Try.prog 35 #[.agg #[.slice p N c,v1,v2,v3,v4,v5,v6],.agg #[usV g N],.slice pb bn cb,.int .i64 1,.int .i64 2] W (AddR b' g N W V (writesP (sizes l) kAll body)):=λ W g b' V h1 h2 h3=>by
  have hs':SgsM b' W p c l:=⟨(hs.ra.turn λ k hk hk2=>⟨Nat.lt_of_lt_of_le hk2 h1,h3.block k hk2⟩),hs.pos,hs.le,hs.sz⟩
  have hwu:WU (sizes l) (List.replicate N []):=by rw [←hsN];exact WU.none _
  have:=(wr_step (a:=1) (b:=2) (base:=b') (p:=p) (c:=c) (l:=l) (v1:=v1) (v2:=v2) (v3:=v3) (v4:=v4) (v5:=v5) (v6:=v6) hw hl (wr_all hw)) g W (List.replicate N []) V pb cb bc h2 hwu hs' (hr.turn λ k hk hk2=>⟨Nat.lt_of_lt_of_le hk2 h1,h3.block k hk2⟩) (hb.turn ER.stay λ k hk hk2=>⟨Nat.lt_of_lt_of_le hk2 h1,h3.block k hk2⟩)
  rw [hN,hbn] at this
  have e:writesP (sizes l) kAll body=addsP (sizes l) (List.replicate N []) (writeAts (fAB 1 2) (flatS body)):=by unfold writesP;rw [hsN];try rfl
  rw [e]
  exact this
 rw [hN,hbn]
 rw [hN] at hN8
 have hb4:Below w.heap.size w (((w.alloc (.cells #[.slice p N c,v1,v2,v3,v4,v5,v6] 31)).alloc (.cells #[kv,q1,q2,q3,.slice pb bn cb] 72)).alloc (.cells #[.slice none 0 0] 86)):=Below.next (Below.next (Below.new _ _) (Below.new _ _)) (Below.new _ _)
 have hx0:Blk (((w.alloc (.cells #[.slice p N c,v1,v2,v3,v4,v5,v6] 31)).alloc (.cells #[kv,q1,q2,q3,.slice pb bn cb] 72)).alloc (.cells #[.slice none 0 0] 86)) (w.heap.size) 31 [.slice p N c,v1,v2,v3,v4,v5,v6]:=by
  have this:=Blk.new (w:=w) 31 [.slice p N c,v1,v2,v3,v4,v5,v6]
  have this:=this.next (Below.new (w.alloc (.cells #[.slice p N c,v1,v2,v3,v4,v5,v6] 31)) (.cells #[kv,q1,q2,q3,.slice pb bn cb] 72))
  have this:=this.next (Below.new ((w.alloc (.cells #[.slice p N c,v1,v2,v3,v4,v5,v6] 31)).alloc (.cells #[kv,q1,q2,q3,.slice pb bn cb] 72)) (.cells #[.slice none 0 0] 86))
  exact this
 have hx1:Blk (((w.alloc (.cells #[.slice p N c,v1,v2,v3,v4,v5,v6] 31)).alloc (.cells #[kv,q1,q2,q3,.slice pb bn cb] 72)).alloc (.cells #[.slice none 0 0] 86)) (w.heap.size+1) 72 [kv,q1,q2,q3,.slice pb bn cb]:=by
  have this:=Blk.new (w:=(w.alloc (.cells #[.slice p N c,v1,v2,v3,v4,v5,v6] 31))) 72 [kv,q1,q2,q3,.slice pb bn cb]
  have this:=this.next (Below.new ((w.alloc (.cells #[.slice p N c,v1,v2,v3,v4,v5,v6] 31)).alloc (.cells #[kv,q1,q2,q3,.slice pb bn cb] 72)) (.cells #[.slice none 0 0] 86))
  rw [World.size_alloc] at this
  exact this
 have hx2:Blk (((w.alloc (.cells #[.slice p N c,v1,v2,v3,v4,v5,v6] 31)).alloc (.cells #[kv,q1,q2,q3,.slice pb bn cb] 72)).alloc (.cells #[.slice none 0 0] 86)) (w.heap.size+1+1) 86 [.slice none 0 0]:=by
  have this:=Blk.new (w:=((w.alloc (.cells #[.slice p N c,v1,v2,v3,v4,v5,v6] 31)).alloc (.cells #[kv,q1,q2,q3,.slice pb bn cb] 72))) 86 [.slice none 0 0]
  rw [World.size_alloc,World.size_alloc] at this
  exact this
 obtain ⟨R,hR⟩:∃ R,writesP (sizes l) kAll body=R:=⟨_,rfl⟩
 rw [hR] at hfun ⊢
 have HFun:=Lib.hid hfun
 have HB:=Lib.hid (And.intro hx0 (And.intro hx1 (And.intro hx2 hb4)))
 have HNo:=Lib.hid (λ W=>none_any (w:=W) (p:=p) (n:=N) (c:=c) (v1:=v1) (v2:=v2) (v3:=v3) (v4:=v4) (v5:=v5) (v6:=v6) hN8)
 clear hfun hB hs hw hl hr hb hN hbn hN8 hsN hx0 hx1 hx2 hb4 hR
 go_enter Try.func15,Try.ntmps15
 go_upto_region 1 with fail
 generalize hW4:(((w.alloc (.cells #[.slice p N c,v1,v2,v3,v4,v5,v6] 31)).alloc (.cells #[kv,q1,q2,q3,.slice pb bn cb] 72)).alloc (.cells #[.slice none 0 0] 86))=w4 at *
 clear hW4
 have s0:w4.drew.cell? ⟨w.heap.size,0,none⟩=some (.slice p N c)∧w4.drew.cell? ⟨w.heap.size,1,none⟩=some (v1)∧w4.drew.cell? ⟨w.heap.size,2,none⟩=some (v2)∧w4.drew.cell? ⟨w.heap.size,3,none⟩=some (v3)∧w4.drew.cell? ⟨w.heap.size,4,none⟩=some (v4)∧w4.drew.cell? ⟨w.heap.size,5,none⟩=some (v5)∧w4.drew.cell? ⟨w.heap.size,6,none⟩=some (v6)∧w4.drew.cell? ⟨w.heap.size+1,4,none⟩=some (.slice pb bn cb):=⟨HB.out.1.cell (i:=0) rfl,HB.out.1.cell (i:=1) rfl,HB.out.1.cell (i:=2) rfl,HB.out.1.cell (i:=3) rfl,HB.out.1.cell (i:=4) rfl,HB.out.1.cell (i:=5) rfl,HB.out.1.cell (i:=6) rfl,HB.out.2.1.cell (i:=4) rfl⟩
 have h2s:=Lib.hid (And.intro HB.out.1.lt (And.intro HB.out.2.1.lt HB.out.2.2.1.lt))
 have HBd:Hid (Below w.heap.size w w4.drew∧w.heap.size≤w4.drew.heap.size):=Lib.hid ⟨HB.out.2.2.2.trans ((Below.refl w4.heap.size w4).drew.mono HB.out.2.2.2.size),HB.out.2.2.2.size⟩
 have hne1:w.heap.size+1+1≠w.heap.size:=by omega
 have hne2:w.heap.size+1+1≠w.heap.size+1:=by omega
 go_region_held3 (λ w'=>w'.cell? ⟨w.heap.size,0,none⟩=some (.slice p N c)∧w'.cell? ⟨w.heap.size,1,none⟩=some (v1)∧w'.cell? ⟨w.heap.size,2,none⟩=some (v2)∧w'.cell? ⟨w.heap.size,3,none⟩=some (v3)∧w'.cell? ⟨w.heap.size,4,none⟩=some (v4)∧w'.cell? ⟨w.heap.size,5,none⟩=some (v5)∧w'.cell? ⟨w.heap.size,6,none⟩=some (v6)∧w'.cell? ⟨w.heap.size+1,4,none⟩=some (.slice pb bn cb))
  (first | (with_reducible assumption) | (exact ⟨(World.cell?_setCell_far _ _ _ _ (hne1)).trans s7.1,(World.cell?_setCell_far _ _ _ _ (hne1)).trans s7.2.1,(World.cell?_setCell_far _ _ _ _ (hne1)).trans s7.2.2.1,(World.cell?_setCell_far _ _ _ _ (hne1)).trans s7.2.2.2.1,(World.cell?_setCell_far _ _ _ _ (hne1)).trans s7.2.2.2.2.1,(World.cell?_setCell_far _ _ _ _ (hne1)).trans s7.2.2.2.2.2.1,(World.cell?_setCell_far _ _ _ _ (hne1)).trans s7.2.2.2.2.2.2.1,(World.cell?_setCell_far _ _ _ _ (hne2)).trans s7.2.2.2.2.2.2.2⟩))
  (first
   | (go_at_call 36;have hca:=HNo.out w4.drew;(with_reducible refine hca.mono ?_);clear hca;rintro e w6 ⟨g,rfl,hu6,hb6⟩;have s6:w6.cell? ⟨w.heap.size,0,none⟩=some (.slice p N c)∧w6.cell? ⟨w.heap.size,1,none⟩=some (v1)∧w6.cell? ⟨w.heap.size,2,none⟩=some (v2)∧w6.cell? ⟨w.heap.size,3,none⟩=some (v3)∧w6.cell? ⟨w.heap.size,4,none⟩=some (v4)∧w6.cell? ⟨w.heap.size,5,none⟩=some (v5)∧w6.cell? ⟨w.heap.size,6,none⟩=some (v6)∧w6.cell? ⟨w.heap.size+1,4,none⟩=some (.slice pb bn cb):=⟨(hb6.cell (World.block_lt_of_cell? _ _ s0.1)).trans s0.1,(hb6.cell (World.block_lt_of_cell? _ _ s0.2.1)).trans s0.2.1,(hb6.cell (World.block_lt_of_cell? _ _ s0.2.2.1)).trans s0.2.2.1,(hb6.cell (World.block_lt_of_cell? _ _ s0.2.2.2.1)).trans s0.2.2.2.1,(hb6.cell (World.block_lt_of_cell? _ _ s0.2.2.2.2.1)).trans s0.2.2.2.2.1,(hb6.cell (World.block_lt_of_cell? _ _ s0.2.2.2.2.2.1)).trans s0.2.2.2.2.2.1,(hb6.cell (World.block_lt_of_cell? _ _ s0.2.2.2.2.2.2.1)).trans s0.2.2.2.2.2.2.1,(hb6.cell (World.block_lt_of_cell? _ _ s0.2.2.2.2.2.2.2)).trans s0.2.2.2.2.2.2.2⟩;have H6:Hid (UsM w4.drew.heap.size g w6 (List.replicate N []) (λ _ => .slice none 0 0)∧Below w4.drew.heap.size w4.drew w6):=Lib.hid (And.intro hu6 hb6);clear hu6 hb6)
   | (go_at_call 35;have hca:=HFun.out w6 g w4.drew.heap.size (λ _ => .slice none 0 0) HBd.out.2 H6.out.1 (Below.trans HBd.out.1 (Below.mono H6.out.2 HBd.out.2));(with_reducible refine hca.mono ?_);clear hca;rintro e w7 ⟨rfl,V7,hu7,hp7⟩;have hnf:∀ b,b<w4.drew.heap.size→¬FV g (λ _=>Value.slice none 0 0) b:=λ b hb hf=>(by have:=(UsM.flt H6.out.1 b hf).1;omega);have s7:w7.cell? ⟨w.heap.size,0,none⟩=some (.slice p N c)∧w7.cell? ⟨w.heap.size,1,none⟩=some (v1)∧w7.cell? ⟨w.heap.size,2,none⟩=some (v2)∧w7.cell? ⟨w.heap.size,3,none⟩=some (v3)∧w7.cell? ⟨w.heap.size,4,none⟩=some (v4)∧w7.cell? ⟨w.heap.size,5,none⟩=some (v5)∧w7.cell? ⟨w.heap.size,6,none⟩=some (v6)∧w7.cell? ⟨w.heap.size+1,4,none⟩=some (.slice pb bn cb):=⟨hp7.cell s6.1 (hnf _ (by exact Nat.lt_of_lt_of_le h2s.out.1 (Nat.le_refl _))),hp7.cell s6.2.1 (hnf _ (by exact Nat.lt_of_lt_of_le h2s.out.1 (Nat.le_refl _))),hp7.cell s6.2.2.1 (hnf _ (by exact Nat.lt_of_lt_of_le h2s.out.1 (Nat.le_refl _))),hp7.cell s6.2.2.2.1 (hnf _ (by exact Nat.lt_of_lt_of_le h2s.out.1 (Nat.le_refl _))),hp7.cell s6.2.2.2.2.1 (hnf _ (by exact Nat.lt_of_lt_of_le h2s.out.1 (Nat.le_refl _))),hp7.cell s6.2.2.2.2.2.1 (hnf _ (by exact Nat.lt_of_lt_of_le h2s.out.1 (Nat.le_refl _))),hp7.cell s6.2.2.2.2.2.2.1 (hnf _ (by exact Nat.lt_of_lt_of_le h2s.out.1 (Nat.le_refl _))),hp7.cell s6.2.2.2.2.2.2.2 (hnf _ (by exact h2s.out.2.1))⟩;have hr7:Blk w7 (w.heap.size+1+1) 86 [.slice none 0 0]:=Upd.blk hp7 (Blk.next HB.out.2.2.1 (Below.next (Below.drew (Below.refl w4.heap.size w4)) H6.out.2)) (hnf _ h2s.out.2.2);have rz0:=Blk.cell (i:=0) hr7 rfl;have rz1:=Blk.frz hr7 0;have H7:Hid (UsM w4.drew.heap.size g w7 R V7∧Below w4.drew.heap.size w6 w7∧Blk w7 (w.heap.size+1+1) 86 [.slice none 0 0]∧¬FV g V7 (w.heap.size+1+1)):=Lib.hid (And.intro hu7 (And.intro (Upd.lowF hp7 (λ b hb=>(UsM.flt H6.out.1 b hb).1) H6.out.2.size) (And.intro hr7 (λ hf=>(by have hh:=(UsM.flt hu7 _ hf).1;have h3:w.heap.size+1+1<w4.drew.heap.size:=h2s.out.2.2;omega)))));clear hu7 hp7 hr7 hnf))
 clear s0 s6 s7
 have e0:(w7.setCell ⟨w.heap.size+1+1,0,none⟩ (.slice (some ⟨g,0,none⟩) N N)).cell? ⟨w.heap.size+1+1,0,none⟩=some (.slice (some ⟨g,0,none⟩) N N):=(H7.out.2.2.1.set 0 _).cell (i:=0) rfl
 clear rz0 rz1
 go_wp2_with fail
 refine bodyPost_ret (v := .agg #[usV g N]) (by simp [results,Try.results15,go_sem,e0]) rfl ?_
 refine ⟨g,V7,w4.drew.heap.size,rfl,HB.out.2.2.2.size,H7.out.1.other H7.out.2.2.2 _,?_⟩
 have hb7:Below w.heap.size w w7:=((HB.out.2.2.2.trans ((Below.refl w4.heap.size w4).drew.mono HB.out.2.2.2.size)).trans (H6.out.2.mono HB.out.2.2.2.size)).trans (H7.out.2.1.mono HB.out.2.2.2.size)
 exact hb7.setCell (show w.heap.size≤(⟨w.heap.size+1+1,0,none⟩:Addr).block by show w.heap.size≤w.heap.size+1+1;omega) _
set_option maxRecDepth 100000 in
set_option maxHeartbeats 8000000 in
theorem reads_any {B:Nat} {w:World} {p:Option Addr} {c:Nat} {l:List Sg} {body:SL} {pb:Option Addr} {cb:Nat} {bc:List Value} {v1 v2 v3 v4 v5 v6 kv q1 q2 q3:Value} (hB:B≤w.heap.size) (hs:SgsM B w p c l) (hw:body.wf l.length) (hl:body.len≤1000000)
  (hr:ROA (λ k=>k<B) w (.slice pb body.len cb) 16 body.len bc) (hb:SR (λ k=>k<B) w body bc):Calls Try.prog 32 #[.agg #[.slice p l.length c,v1,v2,v3,v4,v5,v6],.agg #[kv,q1,q2,q3,.slice pb body.len cb]] w (UseR w l.length (readsP (sizes l) body)):=by
 obtain ⟨N,hN⟩:∃ N,l.length=N:=⟨_,rfl⟩
 obtain ⟨bn,hbn⟩:∃ n,body.len=n:=⟨_,rfl⟩
 have hN8:=hs.le
 have hsN:(sizes l).length=N:=by rw [←hN];simp [sizes]
 have hfun:∀ (W:World) (g b':Nat) (V:Nat→Value),w.heap.size≤b'→UsM b' g W (List.replicate N []) V→Below w.heap.size w W→Calls Try.prog 58 #[.agg #[.slice p N c,v1,v2,v3,v4,v5,v6],.agg #[usV g N],.slice pb bn cb] W (AddR b' g N W V (readsP (sizes l) body)):=λ W g b' V h1 h2 h3=>by
  have hs':SgsM b' W p c l:=⟨(hs.ra.turn λ k hk hk2=>⟨Nat.lt_of_lt_of_le hk2 h1,h3.block k hk2⟩),hs.pos,hs.le,hs.sz⟩
  have hwu:WU (sizes l) (List.replicate N []):=by rw [←hsN];exact WU.none _
  have:=(rd_step (base:=b') (p:=p) (c:=c) (l:=l) (v1:=v1) (v2:=v2) (v3:=v3) (v4:=v4) (v5:=v5) (v6:=v6) hw hl (rd_all hw)) g W (List.replicate N []) V pb cb bc h2 hwu hs' (hr.turn λ k hk hk2=>⟨Nat.lt_of_lt_of_le hk2 h1,h3.block k hk2⟩) (hb.turn ER.stay λ k hk hk2=>⟨Nat.lt_of_lt_of_le hk2 h1,h3.block k hk2⟩)
  rw [hN,hbn] at this
  have e:readsP (sizes l) body=addsP (sizes l) (List.replicate N []) ((flatS body).flatMap SH.rd):=by unfold readsP;rw [hsN];try rfl
  rw [e]
  exact this
 rw [hN,hbn]
 rw [hN] at hN8
 have hb4:Below w.heap.size w (((w.alloc (.cells #[.slice p N c,v1,v2,v3,v4,v5,v6] 31)).alloc (.cells #[kv,q1,q2,q3,.slice pb bn cb] 72)).alloc (.cells #[.slice none 0 0] 86)):=Below.next (Below.next (Below.new _ _) (Below.new _ _)) (Below.new _ _)
 have hx0:Blk (((w.alloc (.cells #[.slice p N c,v1,v2,v3,v4,v5,v6] 31)).alloc (.cells #[kv,q1,q2,q3,.slice pb bn cb] 72)).alloc (.cells #[.slice none 0 0] 86)) (w.heap.size) 31 [.slice p N c,v1,v2,v3,v4,v5,v6]:=by
  have this:=Blk.new (w:=w) 31 [.slice p N c,v1,v2,v3,v4,v5,v6]
  have this:=this.next (Below.new (w.alloc (.cells #[.slice p N c,v1,v2,v3,v4,v5,v6] 31)) (.cells #[kv,q1,q2,q3,.slice pb bn cb] 72))
  have this:=this.next (Below.new ((w.alloc (.cells #[.slice p N c,v1,v2,v3,v4,v5,v6] 31)).alloc (.cells #[kv,q1,q2,q3,.slice pb bn cb] 72)) (.cells #[.slice none 0 0] 86))
  exact this
 have hx1:Blk (((w.alloc (.cells #[.slice p N c,v1,v2,v3,v4,v5,v6] 31)).alloc (.cells #[kv,q1,q2,q3,.slice pb bn cb] 72)).alloc (.cells #[.slice none 0 0] 86)) (w.heap.size+1) 72 [kv,q1,q2,q3,.slice pb bn cb]:=by
  have this:=Blk.new (w:=(w.alloc (.cells #[.slice p N c,v1,v2,v3,v4,v5,v6] 31))) 72 [kv,q1,q2,q3,.slice pb bn cb]
  have this:=this.next (Below.new ((w.alloc (.cells #[.slice p N c,v1,v2,v3,v4,v5,v6] 31)).alloc (.cells #[kv,q1,q2,q3,.slice pb bn cb] 72)) (.cells #[.slice none 0 0] 86))
  rw [World.size_alloc] at this
  exact this
 have hx2:Blk (((w.alloc (.cells #[.slice p N c,v1,v2,v3,v4,v5,v6] 31)).alloc (.cells #[kv,q1,q2,q3,.slice pb bn cb] 72)).alloc (.cells #[.slice none 0 0] 86)) (w.heap.size+1+1) 86 [.slice none 0 0]:=by
  have this:=Blk.new (w:=((w.alloc (.cells #[.slice p N c,v1,v2,v3,v4,v5,v6] 31)).alloc (.cells #[kv,q1,q2,q3,.slice pb bn cb] 72))) 86 [.slice none 0 0]
  rw [World.size_alloc,World.size_alloc] at this
  exact this
 obtain ⟨R,hR⟩:∃ R,readsP (sizes l) body=R:=⟨_,rfl⟩
 rw [hR] at hfun ⊢
 have HFun:=Lib.hid hfun
 have HB:=Lib.hid (And.intro hx0 (And.intro hx1 (And.intro hx2 hb4)))
 have HNo:=Lib.hid (λ W=>none_any (w:=W) (p:=p) (n:=N) (c:=c) (v1:=v1) (v2:=v2) (v3:=v3) (v4:=v4) (v5:=v5) (v6:=v6) hN8)
 clear hfun hB hs hw hl hr hb hN hbn hN8 hsN hx0 hx1 hx2 hb4 hR
 go_enter Try.func32,Try.ntmps32
 go_upto_region 1 with fail
 generalize hW4:(((w.alloc (.cells #[.slice p N c,v1,v2,v3,v4,v5,v6] 31)).alloc (.cells #[kv,q1,q2,q3,.slice pb bn cb] 72)).alloc (.cells #[.slice none 0 0] 86))=w4 at *
 clear hW4
 have s0:w4.drew.cell? ⟨w.heap.size,0,none⟩=some (.slice p N c)∧w4.drew.cell? ⟨w.heap.size,1,none⟩=some (v1)∧w4.drew.cell? ⟨w.heap.size,2,none⟩=some (v2)∧w4.drew.cell? ⟨w.heap.size,3,none⟩=some (v3)∧w4.drew.cell? ⟨w.heap.size,4,none⟩=some (v4)∧w4.drew.cell? ⟨w.heap.size,5,none⟩=some (v5)∧w4.drew.cell? ⟨w.heap.size,6,none⟩=some (v6)∧w4.drew.cell? ⟨w.heap.size+1,4,none⟩=some (.slice pb bn cb):=⟨HB.out.1.cell (i:=0) rfl,HB.out.1.cell (i:=1) rfl,HB.out.1.cell (i:=2) rfl,HB.out.1.cell (i:=3) rfl,HB.out.1.cell (i:=4) rfl,HB.out.1.cell (i:=5) rfl,HB.out.1.cell (i:=6) rfl,HB.out.2.1.cell (i:=4) rfl⟩
 have h2s:=Lib.hid (And.intro HB.out.1.lt (And.intro HB.out.2.1.lt HB.out.2.2.1.lt))
 have HBd:Hid (Below w.heap.size w w4.drew∧w.heap.size≤w4.drew.heap.size):=Lib.hid ⟨HB.out.2.2.2.trans ((Below.refl w4.heap.size w4).drew.mono HB.out.2.2.2.size),HB.out.2.2.2.size⟩
 have hne1:w.heap.size+1+1≠w.heap.size:=by omega
 have hne2:w.heap.size+1+1≠w.heap.size+1:=by omega
 go_region_held3 (λ w'=>w'.cell? ⟨w.heap.size,0,none⟩=some (.slice p N c)∧w'.cell? ⟨w.heap.size,1,none⟩=some (v1)∧w'.cell? ⟨w.heap.size,2,none⟩=some (v2)∧w'.cell? ⟨w.heap.size,3,none⟩=some (v3)∧w'.cell? ⟨w.heap.size,4,none⟩=some (v4)∧w'.cell? ⟨w.heap.size,5,none⟩=some (v5)∧w'.cell? ⟨w.heap.size,6,none⟩=some (v6)∧w'.cell? ⟨w.heap.size+1,4,none⟩=some (.slice pb bn cb))
  (first | (with_reducible assumption) | (exact ⟨(World.cell?_setCell_far _ _ _ _ (hne1)).trans s7.1,(World.cell?_setCell_far _ _ _ _ (hne1)).trans s7.2.1,(World.cell?_setCell_far _ _ _ _ (hne1)).trans s7.2.2.1,(World.cell?_setCell_far _ _ _ _ (hne1)).trans s7.2.2.2.1,(World.cell?_setCell_far _ _ _ _ (hne1)).trans s7.2.2.2.2.1,(World.cell?_setCell_far _ _ _ _ (hne1)).trans s7.2.2.2.2.2.1,(World.cell?_setCell_far _ _ _ _ (hne1)).trans s7.2.2.2.2.2.2.1,(World.cell?_setCell_far _ _ _ _ (hne2)).trans s7.2.2.2.2.2.2.2⟩))
  (first
   | (go_at_call 36;have hca:=HNo.out w4.drew;(with_reducible refine hca.mono ?_);clear hca;rintro e w6 ⟨g,rfl,hu6,hb6⟩;have s6:w6.cell? ⟨w.heap.size,0,none⟩=some (.slice p N c)∧w6.cell? ⟨w.heap.size,1,none⟩=some (v1)∧w6.cell? ⟨w.heap.size,2,none⟩=some (v2)∧w6.cell? ⟨w.heap.size,3,none⟩=some (v3)∧w6.cell? ⟨w.heap.size,4,none⟩=some (v4)∧w6.cell? ⟨w.heap.size,5,none⟩=some (v5)∧w6.cell? ⟨w.heap.size,6,none⟩=some (v6)∧w6.cell? ⟨w.heap.size+1,4,none⟩=some (.slice pb bn cb):=⟨(hb6.cell (World.block_lt_of_cell? _ _ s0.1)).trans s0.1,(hb6.cell (World.block_lt_of_cell? _ _ s0.2.1)).trans s0.2.1,(hb6.cell (World.block_lt_of_cell? _ _ s0.2.2.1)).trans s0.2.2.1,(hb6.cell (World.block_lt_of_cell? _ _ s0.2.2.2.1)).trans s0.2.2.2.1,(hb6.cell (World.block_lt_of_cell? _ _ s0.2.2.2.2.1)).trans s0.2.2.2.2.1,(hb6.cell (World.block_lt_of_cell? _ _ s0.2.2.2.2.2.1)).trans s0.2.2.2.2.2.1,(hb6.cell (World.block_lt_of_cell? _ _ s0.2.2.2.2.2.2.1)).trans s0.2.2.2.2.2.2.1,(hb6.cell (World.block_lt_of_cell? _ _ s0.2.2.2.2.2.2.2)).trans s0.2.2.2.2.2.2.2⟩;have H6:Hid (UsM w4.drew.heap.size g w6 (List.replicate N []) (λ _ => .slice none 0 0)∧Below w4.drew.heap.size w4.drew w6):=Lib.hid (And.intro hu6 hb6);clear hu6 hb6)
   | (go_at_call 58;have hca:=HFun.out w6 g w4.drew.heap.size (λ _ => .slice none 0 0) HBd.out.2 H6.out.1 (Below.trans HBd.out.1 (Below.mono H6.out.2 HBd.out.2));(with_reducible refine hca.mono ?_);clear hca;rintro e w7 ⟨rfl,V7,hu7,hp7⟩;have hnf:∀ b,b<w4.drew.heap.size→¬FV g (λ _=>Value.slice none 0 0) b:=λ b hb hf=>(by have:=(UsM.flt H6.out.1 b hf).1;omega);have s7:w7.cell? ⟨w.heap.size,0,none⟩=some (.slice p N c)∧w7.cell? ⟨w.heap.size,1,none⟩=some (v1)∧w7.cell? ⟨w.heap.size,2,none⟩=some (v2)∧w7.cell? ⟨w.heap.size,3,none⟩=some (v3)∧w7.cell? ⟨w.heap.size,4,none⟩=some (v4)∧w7.cell? ⟨w.heap.size,5,none⟩=some (v5)∧w7.cell? ⟨w.heap.size,6,none⟩=some (v6)∧w7.cell? ⟨w.heap.size+1,4,none⟩=some (.slice pb bn cb):=⟨hp7.cell s6.1 (hnf _ (by exact Nat.lt_of_lt_of_le h2s.out.1 (Nat.le_refl _))),hp7.cell s6.2.1 (hnf _ (by exact Nat.lt_of_lt_of_le h2s.out.1 (Nat.le_refl _))),hp7.cell s6.2.2.1 (hnf _ (by exact Nat.lt_of_lt_of_le h2s.out.1 (Nat.le_refl _))),hp7.cell s6.2.2.2.1 (hnf _ (by exact Nat.lt_of_lt_of_le h2s.out.1 (Nat.le_refl _))),hp7.cell s6.2.2.2.2.1 (hnf _ (by exact Nat.lt_of_lt_of_le h2s.out.1 (Nat.le_refl _))),hp7.cell s6.2.2.2.2.2.1 (hnf _ (by exact Nat.lt_of_lt_of_le h2s.out.1 (Nat.le_refl _))),hp7.cell s6.2.2.2.2.2.2.1 (hnf _ (by exact Nat.lt_of_lt_of_le h2s.out.1 (Nat.le_refl _))),hp7.cell s6.2.2.2.2.2.2.2 (hnf _ (by exact h2s.out.2.1))⟩;have hr7:Blk w7 (w.heap.size+1+1) 86 [.slice none 0 0]:=Upd.blk hp7 (Blk.next HB.out.2.2.1 (Below.next (Below.drew (Below.refl w4.heap.size w4)) H6.out.2)) (hnf _ h2s.out.2.2);have rz0:=Blk.cell (i:=0) hr7 rfl;have rz1:=Blk.frz hr7 0;have H7:Hid (UsM w4.drew.heap.size g w7 R V7∧Below w4.drew.heap.size w6 w7∧Blk w7 (w.heap.size+1+1) 86 [.slice none 0 0]∧¬FV g V7 (w.heap.size+1+1)):=Lib.hid (And.intro hu7 (And.intro (Upd.lowF hp7 (λ b hb=>(UsM.flt H6.out.1 b hb).1) H6.out.2.size) (And.intro hr7 (λ hf=>(by have hh:=(UsM.flt hu7 _ hf).1;have h3:w.heap.size+1+1<w4.drew.heap.size:=h2s.out.2.2;omega)))));clear hu7 hp7 hr7 hnf))
 clear s0 s6 s7
 have e0:(w7.setCell ⟨w.heap.size+1+1,0,none⟩ (.slice (some ⟨g,0,none⟩) N N)).cell? ⟨w.heap.size+1+1,0,none⟩=some (.slice (some ⟨g,0,none⟩) N N):=(H7.out.2.2.1.set 0 _).cell (i:=0) rfl
 clear rz0 rz1
 go_wp2_with fail
 refine bodyPost_ret (v := .agg #[usV g N]) (by simp [results,Try.results32,go_sem,e0]) rfl ?_
 refine ⟨g,V7,w4.drew.heap.size,rfl,HB.out.2.2.2.size,H7.out.1.other H7.out.2.2.2 _,?_⟩
 have hb7:Below w.heap.size w w7:=((HB.out.2.2.2.trans ((Below.refl w4.heap.size w4).drew.mono HB.out.2.2.2.size)).trans (H6.out.2.mono HB.out.2.2.2.size)).trans (H7.out.2.1.mono HB.out.2.2.2.size)
 exact hb7.setCell (show w.heap.size≤(⟨w.heap.size+1+1,0,none⟩:Addr).block by show w.heap.size≤w.heap.size+1+1;omega) _
theorem has_any {b' g:Nat} {w:World} {u:Us} {V:Nat→Value} {n k:Nat} (hu:UsM b' g w u V) (hn:u.length=n) (hk:k<n):Calls Try.prog 14 #[.agg #[usV g n],.int .i64 k] w λ e w'=>e = .returned (.bool (decide (0<(u.getD k []).length)))∧Below w.heap.size w w':=by
 have hb1:=Below.new w (.cells #[usV g n] 86)
 obtain ⟨p,c,hv⟩:=hu.form k
 have g0:=(hu.below hb1).row (k:=k) (by omega)
 rw [hv] at g0
 have hki:(k:Int)<(n:Int):=by omega
 have hk0:(0:Int)≤(k:Int):=by omega
 have H:=Lib.hid hb1
 obtain ⟨L,hL⟩:∃ L,(u.getD k []).length=L:=⟨_,rfl⟩
 rw [hL] at g0 ⊢
 clear hu hn hk hb1 hv hL
 go_enter Try.func14,Try.ntmps14
 go_wp2_with fail
 go_ret
 refine ⟨congrArg (λ b=>Ending.returned (Value.bool b)) ?_,H.out⟩
 first | rfl | (rw [Bool.eq_iff_iff];simp)
def meetP (l k:List Bool):Bool:=(List.range (min l.length k.length)).any λ i=>l.getD i false && k.getD i false
theorem meetP_yes {l k:List Bool} {i:Nat} (h1:i<l.length) (h2:i<k.length) (h:l.getD i false=true) (h':k.getD i false=true):meetP l k=true :=
 List.any_eq_true.2 ⟨i,List.mem_range.2 (by omega),by rw [h,h'];rfl⟩
theorem meetP_no {l k:List Bool} (h:∀ i,i<l.length→i<k.length→(l.getD i false && k.getD i false)=false):meetP l k=false :=
 List.any_eq_false.2 λ i hi=>by have:=List.mem_range.1 hi;rw [h i (by omega) (by omega)];simp
set_option maxRecDepth 100000 in
set_option maxHeartbeats 4000000 in
theorem meet_any {b1 b2 g h:Nat} {w:World} {u v:Us} {V V':Nat→Value} {n k:Nat} (hu:UsM b1 g w u V) (hv:UsM b2 h w v V') (hn:u.length=n) (hm:v.length=n) (hk:k<n) (hl:(u.getD k []).length≤1000) :
  Calls Try.prog 33 #[.agg #[usV g n],.agg #[usV h n],.int .i64 k] w λ e w'=>e = .returned (.bool (meetP (u.getD k []) (v.getD k [])))∧Below w.heap.size w w':=by
 have hb2:Below w.heap.size w ((w.alloc (.cells #[usV g n] 86)).alloc (.cells #[usV h n] 86)):=Below.next (Below.new _ _) (Below.new _ _)
 have hx0:Blk ((w.alloc (.cells #[usV g n] 86)).alloc (.cells #[usV h n] 86)) w.heap.size 86 [usV g n]:=(Blk.new (w:=w) _ [usV g n]).next (Below.new _ _)
 have hx1:Blk ((w.alloc (.cells #[usV g n] 86)).alloc (.cells #[usV h n] 86)) (w.heap.size+1) 86 [usV h n]:=by
  have:=Blk.new (w:=w.alloc (.cells #[usV g n] 86)) 86 [usV h n]
  rw [World.size_alloc] at this
  exact this
 have hu2:=hu.below hb2
 have hv2:=hv.below hb2
 obtain ⟨p1,c1,e1⟩:=hu.form k
 obtain ⟨p2,c2,e2⟩:=hv.form k
 have g0:=hu2.row (k:=k) (by omega)
 have h0:=hv2.row (k:=k) (by omega)
 have hki:(k:Int)<(n:Int):=by omega
 have hk0:(0:Int)≤(k:Int):=by omega
 have x0:=hx0.cell (i:=0) rfl
 have x1:=hx1.cell (i:=0) rfl
 obtain ⟨A,hA⟩:∃ A,u.getD k []=A:=⟨_,rfl⟩
 obtain ⟨B,hB⟩:∃ B,v.getD k []=B:=⟨_,rfl⟩
 have hat1:∀ i,i<A.length→∃ b c,V k = .slice (some ⟨b,0,none⟩) A.length c∧((w.alloc (.cells #[usV g n] 86)).alloc (.cells #[usV h n] 86)).cell? ⟨b,i,none⟩=some (.bool (A.getD i false)):=λ i hi=>by
  obtain ⟨b,c,h1,h2,_⟩:=hu2.at (k:=k) (i:=i) (by rw [hA];exact hi)
  rw [hA] at h1 h2
  exact ⟨b,c,h1,h2⟩
 have hat2:∀ i,i<B.length→∃ b c,V' k = .slice (some ⟨b,0,none⟩) B.length c∧((w.alloc (.cells #[usV g n] 86)).alloc (.cells #[usV h n] 86)).cell? ⟨b,i,none⟩=some (.bool (B.getD i false)):=λ i hi=>by
  obtain ⟨b,c,h1,h2,_⟩:=hv2.at (k:=k) (i:=i) (by rw [hB];exact hi)
  rw [hB] at h1 h2
  exact ⟨b,c,h1,h2⟩
 rw [hA] at e1 hl ⊢
 rw [hB] at e2 ⊢
 rw [e1] at g0
 rw [e2] at h0
 have HE:=Lib.hid (And.intro e1 e2)
 have HA:=Lib.hid (And.intro hat1 hat2)
 have H:=Lib.hid hb2
 obtain ⟨NA,hNA⟩:∃ NA,A.length=NA:=⟨_,rfl⟩
 obtain ⟨NB,hNB⟩:∃ NB,B.length=NB:=⟨_,rfl⟩
 rw [hNA] at g0 hl
 rw [hNB] at h0
 have HN:=Lib.hid (And.intro hNA (And.intro hNB hl))
 clear hu hv hn hm hk hb2 hx0 hx1 hu2 hv2 e1 e2 hA hB hat1 hat2 hNA hNB hl
 go_enter Try.func33,Try.ntmps33
 go_upto_region 1 with fail
 generalize (w.alloc (.cells #[usV g n] 86)).alloc (.cells #[usV h n] 86)=W at *
 go_wp2_with fail
 go_loopw [7] (λ iv wr=>∃ i:Nat,iv = .int .i64 i∧i≤1000∧wr=W∧i≤NA∧(∀ j,j<i→(A.getD j false && B.getD j false)=false)) (λ iv _=>1000-(intOf iv).toNat)
 case atStart=>exact ⟨0,rfl,by omega,rfl,Nat.zero_le _,λ j hj=>absurd hj (by omega)⟩
 case round =>
  obtain ⟨i,rfl,hi,rfl,hiA,hno⟩:=hrel
  have HNo:=Lib.hid (And.intro hno (And.intro hiA hi))
  have hi0:(0:Int)≤(i:Int):=by omega
  have hiw:IntKind.i64.wrap ((i:Int)+1)=((i+1:Nat):Int):=by rw [i64_of (by omega)];omega
  clear hno
  by_cases h1:i<NA
  ·by_cases h2:i<NB
   ·obtain ⟨ba,ca,ea,ca0⟩:=HA.out.1 i (by rw [HN.out.1];exact h1)
    obtain ⟨bb,cb,eb,cb0⟩:=HA.out.2 i (by rw [HN.out.2.1];exact h2)
    rw [HE.out.1] at ea
    rw [HE.out.2] at eb
    cases ea
    cases eb
    have h1i:(i:Int)<(NA:Int):=by omega
    have h2i:(i:Int)<(NB:Int):=by omega
    have HLt:=Lib.hid (And.intro h1 h2)
    obtain ⟨qa,hqa⟩:∃ q,A.getD i false=q:=⟨_,rfl⟩
    obtain ⟨qb,hqb⟩:∃ q,B.getD i false=q:=⟨_,rfl⟩
    rw [hqa] at ca0
    rw [hqb] at cb0
    have HQ:=Lib.hid (And.intro hqa hqb)
    clear hqa hqb h1 h2 hi hiA
    cases qa
    ·go_wp2_with fail
     go_roundw
     case rel =>
      refine ⟨i+1,by go_num,?_,by first | rfl | trivial,by have:=HLt.out.1;omega,λ j hj => ?_⟩
      ·have:=HLt.out.1;have:=HN.out.2.2;omega
      ·by_cases e:j=i
       ·subst e;rw [HQ.out.1];rfl
       ·exact HNo.out.1 j (by omega)
     case measure=>simp [intOf];have:=HLt.out.1;have:=HN.out.2.2;omega
    ·cases qb
     ·go_wp2_with fail
      go_roundw
      case rel =>
       refine ⟨i+1,by go_num,?_,by first | rfl | trivial,by have:=HLt.out.1;omega,λ j hj => ?_⟩
       ·have:=HLt.out.1;have:=HN.out.2.2;omega
       ·by_cases e:j=i
        ·subst e;rw [HQ.out.2];simp
        ·exact HNo.out.1 j (by omega)
      case measure=>simp [intOf];have:=HLt.out.1;have:=HN.out.2.2;omega
     ·go_wp2_with fail
      go_ret
      exact ⟨by rw [meetP_yes (by rw [HN.out.1];exact HLt.out.1) (by rw [HN.out.2.1];exact HLt.out.2) HQ.out.1 HQ.out.2];rfl,H.out⟩
   ·have h1i:(i:Int)<(NA:Int):=by omega
    have h2i:¬(i:Int)<(NB:Int):=by omega
    have HLt:=Lib.hid h2
    clear h1 h2 hi hiA
    go_wp2_with fail
    go_ret
    exact ⟨by rw [meetP_no λ j h1 h2=>HNo.out.1 j (by have:=HLt.out;have:=HN.out.2.1;omega)];rfl,H.out⟩
  ·have h1i:¬(i:Int)<(NA:Int):=by omega
   have HLt:=Lib.hid h1
   clear h1 hi hiA
   go_wp2_with fail
   go_ret
   exact ⟨by rw [meetP_no λ j h1 h2=>HNo.out.1 j (by have:=HLt.out;have:=HN.out.1;omega)];rfl,H.out⟩
theorem input_any {B:Nat} {w:World} {pi:Option Addr} {ni ci:Nat} {il:List Int} {v0 v1 v3 v4 v5 v6:Value} (hi:ROA (λ k=>k<B) w (.slice pi ni ci) 1 ni (ints il)) (hn:ni≤1000) (s:Int):Calls Try.prog 37 #[.agg #[v0,v1,.slice pi ni ci,v3,v4,v5,v6],.int .i64 s] w λ e w'=>∃ q,e = .returned (.bool q)∧Below w.heap.size w w':=by
 have hb1:=Below.new w (.cells #[v0,v1,.slice pi ni ci,v3,v4,v5,v6] 31)
 have hx:=Blk.new (w:=w) 31 [v0,v1,.slice pi ni ci,v3,v4,v5,v6]
 have x2:=hx.cell (i:=2) rfl
 have hr:=hi.ro.below hb1
 have hl:il.length=ni:=by have:=hi.1;simpa [ints] using this
 have H:=Lib.hid (And.intro hb1 (And.intro hr (And.intro hl hn)))
 clear hb1 hx hi hr hl hn
 go_enter Try.func37,Try.ntmps37
 go_upto_region 1 with fail
 generalize w.alloc (.cells #[v0,v1,.slice pi ni ci,v3,v4,v5,v6] 31)=W at *
 go_wp2_with fail
 go_loopw [5] (λ iv wr=>∃ i:Nat,iv = .int .i64 i∧i≤ni∧wr=W) (λ iv _=>ni-(intOf iv).toNat)
 case atStart=>exact ⟨0,rfl,Nat.zero_le _,rfl⟩
 case round =>
  obtain ⟨i,rfl,hi,rfl⟩:=hrel
  by_cases hlt:i<ni
  ·have hat:=ints_at il i (by rw [H.out.2.2.1];exact hlt)
   obtain ⟨b,o,rfl⟩:=H.out.2.1.sl hat
   have c0:=H.out.2.1.cell hat
   have hii:(i:Int)<(ni:Int):=by omega
   have hi0:(0:Int)≤(i:Int):=by omega
   have hiw:IntKind.i64.wrap ((i:Int)+1)=((i+1:Nat):Int):=by rw [i64_of (by have:=H.out.2.2.2;omega)];omega
   generalize il.getD i 0=z at *
   have HLt:=Lib.hid hlt
   clear hat hlt hi
   by_cases hz:z=s
   ·subst hz
    go_wp2_with fail
    go_ret
    first | exact ⟨_,rfl,H.out.1⟩ | exact ⟨.inl rfl,H.out.1⟩ | exact ⟨.inr rfl,H.out.1⟩ | exact H.out.1
   ·have hzi:(z == s)=false:=by simp [hz]
    clear hz
    go_wp2_with fail
    go_roundw
    case rel=>exact ⟨i+1,by go_num,HLt.out,by first | rfl | trivial⟩
    case measure=>simp [intOf];have:=HLt.out;omega
  ·have hii:¬(i:Int)<(ni:Int):=by omega
   clear hlt
   go_wp2_with fail
   go_ret
   first | exact ⟨_,rfl,H.out.1⟩ | exact ⟨.inl rfl,H.out.1⟩ | exact ⟨.inr rfl,H.out.1⟩ | exact H.out.1
end Go.Proofs.Ytlklleaocbnbcaa
