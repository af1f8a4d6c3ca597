import Derived.Test.YtlklleaocbnbcaaRows
import Derived.Test.YtlklleaocbnbcaaZ1
namespace Go.Proofs.Ytlklleaocbnbcaa
set_option linter.unusedVariables false
open Go.RowKit
theorem i64_of {x:Int} (h : -9223372036854775808≤x∧x≤9223372036854775807):IntKind.i64.wrap x=x:=IntWalk.i64_in _ h
structure TH where
 k:Nat
 w:Nat
 s:Nat
 lo:Nat
instance:Inhabited TH:=⟨⟨0,0,0,0⟩⟩
inductive TL where
 | nil
 | cons (h:TH) (a r:TL)
instance:Inhabited TL:=⟨.nil⟩
def TL.len:TL→Nat
 | .nil=>0
 | .cons _ _ r=>r.len+1
def TL.hk:TL→Nat
 | .nil=>0
 | .cons h _ _=>h.k
def TL.hs:TL→Nat
 | .nil=>0
 | .cons h _ _=>h.s
structure Atom where
 s:Nat
 lo:Nat
 w:Nat
def atH (h:TH) (a:TL) (l:List Atom):List Atom:=if h.k=5∧a.hk=2 then [⟨a.hs,h.lo,h.w⟩] else (if h.k=2∨h.k=3 then [⟨h.s,0,1000⟩] else [])++l
def atL:TL→List Atom
 | .nil => []
 | .cons h a r=>atH h a (atL a)++atL r
def atT (h:TH) (a:TL):List Atom:=atH h a (atL a)
def TL.wf (n:Nat):TL→Prop
 | .nil=>True
 | .cons h a r=>(h.k=5→a ≠ .nil)∧(h.k=2∨h.k=3→h.s<n)∧h.k≤1000∧h.w≤1000∧h.s≤1000∧h.lo≤1000∧a.len≤1000∧a.wf n∧r.wf n
structure SH where
 k:Nat
 s:Nat
 lo:Nat
 wd:Nat
 asr:Nat
 idx:TL
 vh:TH
 va:TL
inductive SL where
 | nil
 | cons (h:SH) (b e r:SL)
instance:Inhabited SL:=⟨.nil⟩
def SL.len:SL→Nat
 | .nil=>0
 | .cons _ _ _ r=>r.len+1
def SH.wf (n:Nat) (h:SH):Prop:=h.k≤1000∧h.s<n∧h.lo≤1000∧h.wd≤1000∧h.asr≤1000∧h.idx.len≤1000∧h.idx.wf n∧(TL.cons h.vh h.va .nil).wf n
def SL.wf (n:Nat):SL→Prop
 | .nil=>True
 | .cons h b e r=>h.wf n∧b.len≤1000000∧e.len≤1000000∧b.wf n∧e.wf n∧r.wf n
def flatS:SL→List SH
 | .nil => []
 | .cons h b e r=>h::(flatS b++flatS e++flatS r)
def SH.rd (h:SH):List Atom:=atT h.vh h.va++atL h.idx
def SH.wr (h:SH):Atom:=if h.idx.len=0 then ⟨h.s,h.lo,h.wd⟩ else ⟨h.s,0,1000⟩
abbrev Us:=List (List Bool)
def orBits (n:Nat) (l:List Bool) (lo w:Nat):List Bool:=(List.range n).map λ i=>l.getD i false || (decide (lo≤i) && decide (i<lo+w))
def addP (sz:List Nat) (u:Us) (a:Atom):Us:=u.set a.s (orBits (sz.getD a.s 0) (u.getD a.s []) a.lo a.w)
def addsP (sz:List Nat) (u:Us) (l:List Atom):Us:=l.foldl (addP sz) u
theorem addsP_app (sz:List Nat) (u:Us) (l k:List Atom):addsP sz u (l++k)=addsP sz (addsP sz u l) k:=List.foldl_append
theorem addsP_one (sz:List Nat) (u:Us) (a:Atom):addsP sz u [a]=addP sz u a:=rfl
theorem addP_len (sz:List Nat) (u:Us) (a:Atom):(addP sz u a).length=u.length:=by unfold addP;rw [List.length_set]
theorem addsP_len (sz:List Nat):∀ (l:List Atom) (u:Us),(addsP sz u l).length=u.length
 | [],_=>rfl
 | a::l,u=>(addsP_len sz l (addP sz u a)).trans (addP_len sz u a)
def WU (sz:List Nat) (u:Us):Prop:=u.length=sz.length∧∀ k,u.getD k [] = []∨(u.getD k []).length=sz.getD k 0
theorem orBits_len (n:Nat) (l:List Bool) (lo w:Nat):(orBits n l lo w).length=n:=by simp [orBits]
theorem getD_set_us (u:Us) (i k:Nat) (r:List Bool):(u.set i r).getD k []=if i=k∧i<u.length then r else u.getD k []:=by
 simp only [List.getD,List.getElem?_set]
 by_cases h:i=k
 ·subst h
  by_cases h2:i<u.length <;> simp [h2]
 ·simp [h]
theorem WU.add {sz:List Nat} {u:Us} (h:WU sz u) (a:Atom):WU sz (addP sz u a):=by
 refine ⟨(addP_len sz u a).trans h.1,λ k => ?_⟩
 unfold addP
 rw [getD_set_us]
 split
 ·rename_i hk
  obtain ⟨rfl,_⟩:=hk
  exact .inr (orBits_len _ _ _ _)
 ·exact h.2 k
theorem WU.adds {sz:List Nat}:∀ (l:List Atom) {u:Us},WU sz u→WU sz (addsP sz u l)
 | [],_,h=>h
 | a::l,_,h=>WU.adds l (h.add a)
theorem getD_repl (n k:Nat):(List.replicate n ([]:List Bool)).getD k [] = []:=by
 rw [List.getD,List.getElem?_replicate];split <;> rfl
theorem WU.none (sz:List Nat):WU sz (List.replicate sz.length []):=⟨by simp,λ k => .inl (getD_repl _ _)⟩
structure Pr where
 kind:Nat
 p1:Nat
 p2:Nat
 p3:Nat
 body:SL
instance:Inhabited Pr:=⟨⟨0,0,0,0,.nil⟩⟩
structure Sg where
 name:ByteArray
 w:Nat
 sg:Bool
 words:Nat
instance:Inhabited Sg:=⟨⟨⟨#[]⟩,0,false,0⟩⟩
def Sg.size (x:Sg):Nat:=if 0<x.words then 1 else x.w
def sizes (l:List Sg):List Nat:=l.map Sg.size
def readsP (sz:List Nat) (b:SL):Us:=addsP sz (List.replicate sz.length []) ((flatS b).flatMap SH.rd)
def writeAts (f:Nat→Bool) (l:List SH):List Atom:=(l.filter λ h=>f h.k).map SH.wr
def writesP (sz:List Nat) (f:Nat→Bool) (b:SL):Us:=addsP sz (List.replicate sz.length []) (writeAts f (flatS b))
def kAll (k:Nat):Bool:=decide (k=1) || decide (k=2)
def kSet (k:Nat):Bool:=decide (k=1)
def kLater (k:Nat):Bool:=decide (k=2)
def ROA (A:Nat→Prop) (w:World) (v:Value) (size n:Nat) (cs:List Value):Prop :=
 cs.length=n*size∧∃ p c,v = .slice p n c∧n≤c∧(∀ j u,cs[j]? = some u→∃ b o,p=some ⟨b,o,none⟩∧A b∧w.cell? ⟨b,o+j,none⟩=some u)
section
variable {A A':Nat→Prop} {w w':World} {v:Value} {size n:Nat} {cs:List Value}
theorem ROA.ro (h:ROA A w v size n cs):RO w v size n cs:=by
 obtain ⟨h1,p,c,h2,_,h3⟩:=h
 refine ⟨h1,p,c,h2,λ j u hj => ?_⟩
 obtain ⟨b,o,e,_,hc⟩:=h3 j u hj
 exact ⟨b,o,e,hc⟩
theorem ROA.turn (h:ROA A w v size n cs) (hA:∀ b,A b→b<w.heap.size→A' b∧w'.heap[b]? = w.heap[b]?):ROA A' w' v size n cs:=by
 obtain ⟨h1,p,c,h2,h4,h3⟩:=h
 refine ⟨h1,p,c,h2,h4,λ j u hj => ?_⟩
 obtain ⟨b,o,e,ha,hc⟩:=h3 j u hj
 have:=hA b ha (World.block_lt_of_cell? _ _ hc)
 exact ⟨b,o,e,this.1,(World.cell?_of_block this.2).trans hc⟩
theorem ROA.form (h:ROA A w v size n cs):∃ p c,v = .slice p n c∧n≤c:=by
 obtain ⟨h1,p,c,e,h4,h3⟩:=h
 exact ⟨p,c,e,h4⟩
theorem ROA.cap {p:Option Addr} {m c:Nat} (h:ROA A w (.slice p m c) size n cs):n≤c:=by
 obtain ⟨_,p',c',e,h4,_⟩:=h
 cases e;exact h4
theorem ROA.nil:ROA A w (.slice none 0 0) size 0 []:=⟨by simp,none,0,rfl,Nat.le_refl _,λ j u h=>by simp at h⟩
theorem ROA.sl {p c m} (h:ROA A w (.slice p m c) size n cs) {j:Nat} {u:Value} (hu:cs[j]? = some u):∃ b o,p=some ⟨b,o,none⟩:=h.ro.sl hu
end
def TG (k:Nat) (E:(Nat→Prop)→World→TH→Value→List Value→Prop) (A:Nat→Prop) (w:World):TL→List Value→Prop
 | .nil,cs=>cs = []
 | .cons h a r,cs=>∃ hc av ac cs',cs=hc++cs'∧hc.length=k∧E A w h av hc∧ROA A w av k a.len ac∧TG k E A w a ac∧TG k E A w r cs'
def Stay (E:(Nat→Prop)→World→TH→Value→List Value→Prop):Prop :=
 ∀ (A A':Nat→Prop) (w w':World) (h:TH) (v:Value) (cs:List Value),(∀ b,A b→b<w.heap.size→A' b∧w'.heap[b]? = w.heap[b]?)→E A w h v cs→E A' w' h v cs
theorem TG.turn {k:Nat} {E} (hE:Stay E) {A A':Nat→Prop} {w w':World} (hA:∀ b,A b→b<w.heap.size→A' b∧w'.heap[b]? = w.heap[b]?):∀ {t:TL} {cs:List Value},TG k E A w t cs→TG k E A' w' t cs
 | .nil,_,h=>h
 | .cons h a r,_,⟨hc,av,ac,cs',e,hl,hh,hr,ha,hrr⟩=>⟨hc,av,ac,cs',e,hl,hE _ _ _ _ _ _ _ hA hh,hr.turn hA,ha.turn hE hA,hrr.turn hE hA⟩
theorem TG.len {k:Nat} {E} {A:Nat→Prop} {w:World}:∀ {t:TL} {cs:List Value},TG k E A w t cs→cs.length=t.len*k
 | .nil,_,h=>by have:_ = []:=h;subst this;simp [TL.len]
 | .cons h a r,_,⟨hc,av,ac,cs',e,hl,_,_,_,hrr⟩=>by rw [e,List.length_append,hl,hrr.len,TL.len,Nat.add_mul];omega
def tcells (h:TH) (op:Int) (sg:Bool) (val av:Value):List Value := [.int .i64 (h.k:Nat),.int .i64 op,.int .i64 (h.w:Nat),.int .i64 (h.s:Nat),.int .i64 (h.lo:Nat),.bool sg,val,av]
def fcells (h:TH) (op:Int) (sg:Bool) (vw:Int) (val av:Value):List Value := [.int .i64 (h.k:Nat),.int .i64 op,.int .i64 (h.w:Nat),.int .i64 (h.s:Nat),.int .i64 (h.lo:Nat),.bool sg,.int .i64 vw,val,av]
def ER (A:Nat→Prop) (w:World) (h:TH) (av:Value) (cs:List Value):Prop:=∃ op sg val vl,cs=tcells h op sg val av∧ROA A w val 1 vl.length (bools vl)∧vl.length≤128
def EF (A:Nat→Prop) (w:World) (h:TH) (av:Value) (cs:List Value):Prop:=∃ op sg vw p n c,cs=fcells h op sg vw (.slice p n c) av
theorem ER.stay:Stay ER:=λ A A' w w' h v cs hA ⟨op,sg,val,vl,e,hr,hl⟩=>⟨op,sg,val,vl,e,hr.turn hA,hl⟩
theorem EF.stay:Stay EF:=λ A A' w w' h v cs hA h=>h
abbrev TR:=TG 8 ER
abbrev TF:=TG 9 EF
def scells (kp:Nat) (h:SH) (idxv:Value) (vc:List Value) (bv ev:Value):List Value :=
 .int .i64 (h.k:Nat)::(List.replicate kp (.int .i64 0)++(.int .i64 (h.s:Nat) :: .int .i64 (h.lo:Nat) :: .int .i64 (h.wd:Nat)::idxv::(vc ++ [bv,ev,.int .i64 (h.asr:Nat)])))
def SG (kp k:Nat) (E:(Nat→Prop)→World→TH→Value→List Value→Prop) (A:Nat→Prop) (w:World):SL→List Value→Prop
 | .nil,cs=>cs = []
 | .cons h b e r,cs=>∃ idxv ic vc bv bc ev ec cs',cs=scells kp h idxv vc bv ev++cs'∧TG k E A w (.cons h.vh h.va .nil) vc∧ROA A w idxv k h.idx.len ic∧TG k E A w h.idx ic ∧
   ROA A w bv (k+kp+8) b.len bc∧SG kp k E A w b bc∧ROA A w ev (k+kp+8) e.len ec∧SG kp k E A w e ec∧SG kp k E A w r cs'
theorem SG.turn {kp k:Nat} {E} (hE:Stay E) {A A':Nat→Prop} {w w':World} (hA:∀ b,A b→b<w.heap.size→A' b∧w'.heap[b]? = w.heap[b]?):∀ {t:SL} {cs:List Value},SG kp k E A w t cs→SG kp k E A' w' t cs
 | .nil,_,h=>h
 | .cons h b e r,_,⟨idxv,ic,vc,bv,bc,ev,ec,cs',h1,h2,h3,h4,h5,h6,h7,h8,h9⟩ =>
  ⟨idxv,ic,vc,bv,bc,ev,ec,cs',h1,h2.turn hE hA,h3.turn hA,h4.turn hE hA,h5.turn hA,h6.turn hE hA,h7.turn hA,h8.turn hE hA,h9.turn hE hA⟩
theorem SG.len {kp k:Nat} {E} {A:Nat→Prop} {w:World}:∀ {t:SL} {cs:List Value},SG kp k E A w t cs→cs.length=t.len*(k+kp+8)
 | .nil,_,h=>by have:_ = []:=h;subst this;simp [SL.len]
 | .cons h b e r,_,⟨idxv,ic,vc,bv,bc,ev,ec,cs',h1,h2,_,_,_,_,_,_,h9⟩=>by
  have h2l:=h2.len
  simp only [TL.len] at h2l
  rw [h1,List.length_append,h9.len,SL.len,Nat.add_mul]
  simp only [scells,List.length_cons,List.length_append,List.length_replicate,List.length_nil,h2l]
  omega
abbrev SR:=SG 0 8 ER
abbrev SF:=SG 3 9 EF
def PG (kp k:Nat) (E:(Nat→Prop)→World→TH→Value→List Value→Prop) (A:Nat→Prop) (w:World):List Pr→List Value→Prop
 | [],cs=>cs = []
 | p::r,cs=>∃ bv bc cs',cs = [.int .i64 (p.kind:Nat),.int .i64 (p.p1:Nat),.int .i64 (p.p2:Nat),.int .i64 (p.p3:Nat),bv]++cs'∧ROA A w bv (k+kp+8) p.body.len bc∧SG kp k E A w p.body bc∧PG kp k E A w r cs'
theorem PG.turn {kp k:Nat} {E} (hE:Stay E) {A A':Nat→Prop} {w w':World} (hA:∀ b,A b→b<w.heap.size→A' b∧w'.heap[b]? = w.heap[b]?):∀ {t:List Pr} {cs:List Value},PG kp k E A w t cs→PG kp k E A' w' t cs
 | [],_,h=>h
 | p::r,_,⟨bv,bc,cs',h1,h2,h3,h4⟩=>⟨bv,bc,cs',h1,h2.turn hA,h3.turn hE hA,h4.turn hE hA⟩
def sigCells (l:List Sg):List Value:=l.flatMap λ x => [.string x.name,.int .i64 (x.w:Nat),.bool x.sg,.int .i64 (x.words:Nat)]
def byteCells (l:List UInt8):List Value:=l.map λ x => .int .u8 (x.toNat:Int)
theorem byteCells_at (l:List UInt8) (i:Nat) (h:i<l.length):(byteCells l)[i]? = some (.int .u8 ((l.getD i 0).toNat:Int)):=by
 rw [byteCells,List.getElem?_map,List.getD,List.getElem?_eq_getElem h];rfl
abbrev One (b:Nat):Nat→Prop:=λ g=>g=b
structure Mk (bm:Nat) (w:World):Prop where
 ex:∃ (p:Option Addr) (n c:Nat) (l:List UInt8) (i:Nat),Blk w bm 67 [.slice p n c,.int .i64 (i:Nat)]∧ROA (λ b=>b<bm) w (.slice p n c) 1 n (byteCells l)∧l.length=n∧i≤n∧n≤400
theorem Mk.lt {bm:Nat} {w:World} (h:Mk bm w):bm<w.heap.size:=by
 obtain ⟨_,_,_,_,_,hb,_⟩:=h.ex
 exact hb.lt
theorem Mk.below {bm:Nat} {w w':World} (h:Mk bm w) (hb:Below w.heap.size w w'):Mk bm w':=by
 obtain ⟨p,n,c,l,i,h1,h2,h3⟩:=h.ex
 exact ⟨p,n,c,l,i,h1.next hb,h2.turn λ b hb1 hb2=>⟨hb1,hb.block b hb2⟩,h3⟩
theorem upd_cell1 {w:World} {b i:Nat} (v:Value):Upd (One b) (One b) w (w.setCell ⟨b,i,none⟩ v) :=
 ⟨rfl,rfl,rfl,by simp,λ k _ hn=>Below.heap_setCell _ _ _ _ hn,λ k hk => .inl hk⟩
set_option maxRecDepth 100000 in
theorem next_any {bm:Nat} {w:World} (h:Mk bm w) (n:Nat) (hn:0<n) (hb:n≤1000000):Calls Try.prog 11 #[.pointer (some ⟨bm,0,none⟩),.int .i64 n] w λ e w'=>∃ r:Nat,r<n∧e = .returned (.int .i64 r)∧Mk bm w'∧Upd (One bm) (One bm) w w':=by
 obtain ⟨p,m,c,l,i,h1,h2,h3,h4,h5⟩:=h.ex
 have c0:=h1.cell (i:=0) rfl
 have c1:=h1.cell (i:=1) rfl
 have f1:=h1.frz 1
 have H:=Lib.hid (And.intro h1 (And.intro h2 (And.intro h3 (And.intro h4 (And.intro h5 (And.intro hn hb))))))
 by_cases hlt:i<m
 ·have hx:=byteCells_at l i (by omega)
  obtain ⟨b,o,rfl⟩:=h2.sl hx
  have k0:=h2.ro.cell hx
  have hbm:b<bm:=by
   obtain ⟨_,_,_,e,_,h3'⟩:=h2
   obtain ⟨b',o',e',hA,_⟩:=h3' _ _ hx
   cases e;cases e';exact hA
  obtain ⟨x,hxe⟩:∃ x,(l.getD i 0).toNat=x:=⟨_,rfl⟩
  rw [hxe] at k0
  have hx256:x<256:=by rw [←hxe];exact (l.getD i 0).toNat_lt
  have hbm':bm≠b:=by omega
  have hge:decide (m≤i)=false:=decide_eq_false (by omega)
  have hiw:IntKind.i64.wrap ((i:Int)+1)=((i+1:Nat):Int):=by rw [i64_of (by omega)];omega
  have hi0:IntKind.i64.wrap (i:Int)=(i:Int):=i64_of (by omega)
  have hii:(i:Int)<(m:Int):=by omega
  have hn0:((n:Int) == 0)=false:=by simp;omega
  have hx0:IntKind.i64.wrap (x:Int)=(x:Int):=i64_of (by omega)
  have hnz:¬((n:Int)=0):=by omega
  have hlt2:x % n<n:=Nat.mod_lt _ hn
  have hle2:x % n≤x:=Nat.mod_le _ _
  have hrm:((x:Int).tmod (n:Int))=((x % n:Nat):Int):=by rw [Int.tmod_eq_emod_of_nonneg (by omega)];omega
  have hr:IntKind.i64.wrap ((x:Int).tmod (n:Int))=((x % n:Nat):Int):=by rw [hrm];exact i64_of (by omega)
  have HX:=Lib.hid (And.intro hlt (And.intro hx256 hlt2))
  clear h h1 h2 h3 h4 h5 hn hb hx hxe hlt2 hle2 hrm
  go_enter Try.func11,Try.ntmps11
  go_upto_region 1 with fail
  go_quiet (fail)
  go_wp2_with fail
  go_quiet (fail)
  go_wp2_with fail
  go_ret
  rename_i q1
  have hu:Upd (One bm) (One bm) w (((w.drewN q1).setCell ⟨bm,1,none⟩ (.int .i64 ((i:Int)+1)))):=(Upd.below (below_drewN (B:=w.heap.size) q1)).trans (upd_cell1 _)
  have hb:Blk ((w.drewN q1).setCell ⟨bm,1,none⟩ (.int .i64 ((i:Int)+1))) bm 67 [.slice (some ⟨b,o,none⟩) m c,.int .i64 ((i:Int)+1)]:=(H.out.1.below (below_drewN (B:=w.heap.size) q1) H.out.1.lt).set 1 (.int .i64 ((i:Int)+1))
  exact ⟨x % n,HX.out.2.2,rfl,(Mk.mk ⟨_,m,c,l,i+1,by simpa using hb,H.out.2.1.turn λ k hk hk2=>⟨hk,hu.block k hk2 (by show ¬k=bm;omega)⟩,H.out.2.2.1,HX.out.1,H.out.2.2.2.2.1⟩).below (below_drewN _),hu.trans (Upd.below (below_drewN _))⟩
 ·obtain rfl:i=m:=by omega
  have hge:decide (i≤i)=true:=decide_eq_true (Nat.le_refl _)
  clear h h1 h2 h3 h4 h5 hn hb hlt
  go_enter Try.func11,Try.ntmps11
  go_upto_region 1 with fail
  go_quiet (fail)
  go_wp2_with fail
  go_ret
  exact ⟨0,H.out.2.2.2.2.2.1,rfl,(Mk.mk ⟨p,i,c,l,i,H.out.1,H.out.2.1,H.out.2.2.1,H.out.2.2.2.1,H.out.2.2.2.2.1⟩).below (below_drewN _),Upd.below (below_drewN _)⟩
theorem infoBool:(Try.prog.info? 4).map (λ i=>(i.zero,i.size,i.bytes))=some (some (.bool false),1,1):=by kernel_rfl
theorem TBools:SlTy Try.prog 73 4 1 1 (.bool false):=SlTy.of Try.underlying73 infoBool rfl Nat.one_pos
set_option maxRecDepth 100000 in
theorem mk_bools (n:Nat) (hn:n≤1000000) (w:World):(Instr.makeSlice 73 (.int .i64 n) (.int .i64 n)).run Try.prog w = .ok (.slice (some ⟨w.heap.size,0,none⟩) n n) (w.alloc (.cells (bools (List.replicate n false)).toArray 4)):=by
 obtain ⟨i0,hi,hz0,hz1,hz2⟩:=info_parts infoBool
 have h:=run_make (P:=Try.prog) w 73 4 i0 _ Try.underlying73 hi hz0 .i64 .i64 n n (by omega) (by omega) (by rw [hz2];omega) (by omega)
 rw [h,hz1]
 simp only [Int.toNat_natCast,Nat.mul_one,Value.cells]
 congr 3
 apply Array.ext'
 rw [toList_madeCells_one]
 simp [bools]
abbrev From (n:Nat):Nat→Prop:=λ b=>n≤b
theorem ROA.ofBlk {w:World} {b n t:Nat} {l:List Value} {A:Nat→Prop} (h:Blk w b t l) (hl:l.length=n) (hA:A b):ROA A w (.slice (some ⟨b,0,none⟩) n n) 1 n l:=by
 refine ⟨by omega,_,_,rfl,Nat.le_refl _,λ j u hj=>⟨b,0,rfl,hA,?_⟩⟩
 rw [Nat.zero_add];exact h.cell hj
theorem ROA.ofBlkS {w:World} {b n t size:Nat} {l:List Value} {A:Nat→Prop} (h:Blk w b t l) (hl:l.length=n*size) (hA:A b):ROA A w (.slice (some ⟨b,0,none⟩) n n) size n l:=by
 refine ⟨hl,_,_,rfl,Nat.le_refl _,λ j u hj=>⟨b,0,rfl,hA,?_⟩⟩
 rw [Nat.zero_add];exact h.cell hj
def NewR (w:World) (m:Nat) (e:Ending) (w':World):Prop :=
 ∃ (v:Value) (l:List Bool),e = .returned (.tuple #[v,.int .i64 0])∧l.length=m∧ROA (From w.heap.size) w' v 1 m (bools l)∧Below w.heap.size w w'
set_option maxRecDepth 100000 in
set_option maxHeartbeats 4000000 in
theorem new_any {w:World} {bl x:Nat} (hA:Blk w bl 93 [.int .u64 (x:Nat)]) (m:Nat) (hm:1≤m) (hlm:m≤60) :
  Calls Try.prog 19 #[.int .i64 m,.slice (some ⟨bl,0,none⟩) 1 1] w (NewR w m):=by
 have hmi:(m:Int)≤128:=by omega
 have hmi1:decide ((m:Int)<1)=false:=by simp;omega
 have hmi2:decide ((128:Int)<m)=false:=by simp;omega
 have HA:=Lib.hid (And.intro hA hlm)
 have hmk:=λ w=>mk_bools m (by omega) w
 clear hA hm hlm
 go_enter Try.func19,Try.ntmps19
 go_wp2_with fail
 have k1:=Blk.new (w:=w) 4 (bools (List.replicate m false))
 have hb:Below w.heap.size w (w.alloc (.cells (bools (List.replicate m false)).toArray 4)):=Below.new _ _
 have HK:=Lib.hid (And.intro k1 hb)
 clear k1 hb hmk
 generalize w.alloc (.cells (bools (List.replicate m false)).toArray 4)=W at *
 go_loopw [7] (λ i wr=>∃ (k:Nat) (l:List Bool),k≤m∧i = .int .i64 k∧l.length=m∧Blk wr w.heap.size 4 (bools l)∧Below w.heap.size w wr) (λ i _=>m-(intOf i).toNat)
 case atStart=>exact ⟨0,_,Nat.zero_le _,rfl,by simp,HK.out.1,HK.out.2⟩
 case round =>
  obtain ⟨k,l,hk,rfl,hl,h1,hbel⟩:=hrel
  have HR:=Lib.hid (And.intro h1 (And.intro hbel hl))
  by_cases hlt:k<m
  ·have hki:(k:Int)<m:=by omega
   have k64:k<64:=by have:=HA.out.2;omega
   have q0:IntKind.i64.wrap ((k:Int) / 64)=0:=by rw [show (k:Int) / 64=0 by omega];rfl
   have q6:(k:Int).tmod 64=(k:Int):=by rw [Int.tmod_eq_emod_of_nonneg (by omega)];omega
   have q8:(k:Int).tdiv 64=0:=by rw [Int.tdiv_eq_ediv_of_nonneg (by omega)];omega
   have d0:=h1.cell (bools_at l k (by omega))
   have d1:=h1.frz k
   have HLT:=Lib.hid hlt
   have g0:=(HA.out.1.below hbel HA.out.1.lt).cell (i:=0) rfl
   have q4:(0:Int)≤(k:Int):=by omega
   have q7:min k 64=k:=by omega
   clear h1 hbel hlt hk k64
   go_wp2_with fail
   go_roundw
   case rel =>
    exact ⟨k+1,l.set k (((x:Int) / 2 ^ k).tmod 2 == 1),HLT.out,by go_num,by simpa using HR.out.2.2,by rw [←bools_set];exact HR.out.1.set k _,HR.out.2.1.setCell (Nat.le_refl _) _⟩
   case measure=>simp [intOf];omega
  ·obtain rfl:k=m:=by omega
   clear h1 hbel hlt
   go_wp2_with fail
   go_ret2
   exact ⟨_,l,rfl,HR.out.2.2,ROA.ofBlk HR.out.1 (by simpa [bools] using HR.out.2.2) (Nat.le_refl _),HR.out.2.1⟩
open Go.RowKit Go.Sort
structure Mem {K:Type} (et:K→Nat) (base b:Nat) (w:World) (R:K→Value × List Value):Prop where
 own:∀ k,w.ownsRow base (et k) 1 (R k).1 (R k).2.length (R k).2
 ne:∀ k k',k≠k'→∀ g,(R k).1.ownBlock=some g→(R k').1.ownBlock≠some g
 nb:∀ k,(R k).1.ownBlock≠some b
 hb:base≤b
 lt:b<w.heap.size
def upd {K:Type} [DecidableEq K] (R:K→Value × List Value) (k:K) (r:Value × List Value):K→Value × List Value:=λ k'=>if k'=k then r else R k'
theorem upd_same {K:Type} [DecidableEq K] (R:K→Value × List Value) (k:K) (r):upd R k r k=r:=by simp [upd]
theorem upd_other {K:Type} [DecidableEq K] (R:K→Value × List Value) {k k':K} (r) (h:k'≠k):upd R k r k'=R k':=by simp [upd,h]
theorem own_lt {w:World} {base e size n:Nat} {v:Value} {xs:List Value} (h:w.ownsRow base e size v n xs):∀ g,v.ownBlock=some g→base≤g∧g<w.heap.size:=λ g hg=>by
 rcases h.2 with ⟨rfl,_⟩ | ⟨g',cap,cur,rfl,h1,h2,_⟩
 ·cases hg
 ·cases hg;exact ⟨h1,some_lt h2⟩
section
variable {K:Type} {et:K→Nat} {base b:Nat} {w w':World} {R:K→Value × List Value}
theorem Mem.lts (h:Mem et base b w R) (k:K):∀ g,(R k).1.ownBlock=some g→base≤g∧g<w.heap.size:=own_lt (h.own k)
theorem Mem.keep (h:Mem et base b w R) (hs:w.heap.size≤w'.heap.size) (hold:∀ k g,(R k).1.ownBlock=some g→w'.heap[g]? = w.heap[g]?):Mem et base b w' R :=
 ⟨λ k=>ownsRow_keep (h.own k) (λ g hg=>hold k g hg),h.ne,h.nb,h.hb,Nat.lt_of_lt_of_le h.lt hs⟩
theorem Mem.below (h:Mem et base b w R) (hb:Below w.heap.size w w'):Mem et base b w' R :=
 h.keep hb.size λ k g hg=>hb.block g (h.lts k g hg).2
theorem Mem.put [DecidableEq K] (h:Mem et base b w R) (k:K) {v':Value} {n:Nat} {xs:List Value} (hown:w'.ownsRow base (et k) 1 v' n xs) (hs:w.heap.size≤w'.heap.size)
  (hat:∀ g,v'.ownBlock=some g→(R k).1.ownBlock=some g∨w.heap.size≤g) (hold:∀ g,g<w.heap.size→(R k).1.ownBlock≠some g→w'.heap[g]? = w.heap[g]?):Mem et base b w' (upd R k (v',xs)):=by
 have hn:xs.length=n:=by have:=hown.1;omega
 refine ⟨λ k' => ?_,λ k1 k2 h12 g hg => ?_,λ k' hk' => ?_,h.hb,Nat.lt_of_lt_of_le h.lt hs⟩
 ·by_cases hk:k'=k
  ·subst hk;rw [upd_same];simp only [hn];exact hown
  ·rw [upd_other R _ hk]
   exact ownsRow_keep (h.own k') λ g hg=>hold g (h.lts k' g hg).2 (λ e=>h.ne k' k hk g hg e)
 ·by_cases h1:k1=k
  ·subst h1
   rw [upd_same] at hg
   rw [upd_other R _ (Ne.symm h12)]
   intro e
   rcases hat g hg with hh | hh
   ·exact h.ne k1 k2 h12 g hh e
   ·have:=(h.lts k2 g e).2;omega
  ·rw [upd_other R _ h1] at hg
   by_cases h2:k2=k
   ·subst h2
    rw [upd_same]
    intro e
    rcases hat g e with hh | hh
    ·exact h.ne k1 k2 h12 g hg hh
    ·have:=(h.lts k1 g hg).2;omega
   ·rw [upd_other R _ h2];exact h.ne k1 k2 h12 g hg
 ·by_cases hk:k'=k
  ·subst hk
   rw [upd_same] at hk'
   rcases hat b hk' with hh | hh
   ·exact h.nb k' hh
   ·have:=h.lt;omega
  ·rw [upd_other R _ hk] at hk';exact h.nb k' hk'
theorem Mem.at (h:Mem et base b w R) (k:K) {i:Nat} {u:Value} (hu:(R k).2[i]? = some u):∃ g c,(R k).1 = .slice (some ⟨g,0,none⟩) (R k).2.length c∧w.cell? ⟨g,i,none⟩=some u∧w.frozen? ⟨g,i,none⟩=false∧base≤g∧g≠b:=by
 have ho:=h.own k
 have hi:i<(R k).2.length:=(List.getElem?_eq_some_iff.1 hu).1
 rcases ho.2 with ⟨_,e⟩ | ⟨g,cap,cur,hv,hb,hg,hc,hm,hs,ht⟩
 ·omega
 ·refine ⟨g,cap,hv,?_,by simp [World.frozen?,hg],hb,λ e=>h.nb k (by rw [hv,e];rfl)⟩
  have:cur.toList[i]? = some u:=by
   rw [←ht,List.getElem?_take,Nat.mul_one] at hu
   simpa [hi] using hu
  have hk:Blk w g (et k) cur.toList:=by unfold Blk;simpa using hg
  exact hk.cell this
theorem Mem.set [DecidableEq K] (h:Mem et base b w R) (k:K) {i:Nat} (u:Value) (hi:i<(R k).2.length) {g n c:Nat} (hv:(R k).1 = .slice (some ⟨g,0,none⟩) n c):Mem et base b (w.setCell ⟨g,i,none⟩ u) (upd R k ((R k).1,(R k).2.set i u)):=by
 have ho:=h.own k
 refine h.put k (n:=(R k).2.length) ?_ (by simp) (λ g' hg' => .inl hg') (λ g' hg' hn=>Below.heap_setCell _ _ _ _ (λ e=>hn (by rw [hv,e];rfl)))
 rcases ho.2 with ⟨e,e2⟩ | ⟨g',cap,cur,hv',hb,hg,hc,hm,hs,ht⟩
 ·omega
 ·rw [hv] at hv'
  cases hv'
  refine ⟨by simp,.inr ⟨g,_,(cur.toList.set i u).toArray,hv,hb,?_,hc,hm,by simpa using hs,?_⟩⟩
  ·have hk:Blk w g (et k) cur.toList:=by unfold Blk;simpa using hg
   exact hk.set i u
  ·rw [List.toList_toArray,List.take_set,ht]
end
structure UsM (base g:Nat) (w:World) (u:Us) (V:Nat→Value):Prop where
 mem:Mem (λ _=>4) base g w (λ k=>(V k,bools (u.getD k [])))
 blk:Blk w g 73 ((List.range u.length).map V)
 nil:∀ k,u.getD k [] = []→V k = .slice none 0 0
theorem range_map_at (V:Nat→Value) {n k:Nat} (hk:k<n):((List.range n).map V)[k]? = some (V k):=by
 rw [List.getElem?_map,List.getElem?_range hk];rfl
theorem range_map_upd (V V':Nat→Value) (n k:Nat) (v:Value) (h:∀ j,j<n→V' j=if j=k then v else V j):((List.range n).map V).set k v=(List.range n).map V':=by
 apply List.ext_getElem?
 intro j
 rw [List.getElem?_set]
 by_cases hj:j<n
 ·rw [range_map_at V' hj,h j hj]
  by_cases e:k=j
  ·subst e;rw [if_pos rfl,if_pos (by simpa using hj),if_pos rfl]
  ·rw [if_neg e,range_map_at V hj,if_neg (λ e'=>e e'.symm)]
 ·have h1:((List.range n).map V')[j]? = none:=List.getElem?_eq_none (by rw [List.length_map,List.length_range];omega)
  have h2:((List.range n).map V)[j]? = none:=List.getElem?_eq_none (by rw [List.length_map,List.length_range];omega)
  rw [h1,h2]
  split
  ·rename_i e;subst e;rw [if_neg (by rw [List.length_map,List.length_range];exact hj)]
  ·rfl
section
variable {base g:Nat} {w w':World} {u:Us} {V:Nat→Value}
theorem UsM.below (h:UsM base g w u V) (hb:Below w.heap.size w w'):UsM base g w' u V:=⟨h.mem.below hb,h.blk.next hb,h.nil⟩
theorem UsM.ge (h:UsM base g w u V):base≤g:=h.mem.hb
theorem UsM.size (h:UsM base g w u V):base≤w.heap.size:=Nat.le_trans h.mem.hb (Nat.le_of_lt h.mem.lt)
theorem UsM.row (h:UsM base g w u V) {k:Nat} (hk:k<u.length):w.cell? ⟨g,k,none⟩=some (V k):=h.blk.cell (range_map_at V hk)
theorem UsM.at (h:UsM base g w u V) {k i:Nat} (hi:i<(u.getD k []).length):∃ b c,V k = .slice (some ⟨b,0,none⟩) (u.getD k []).length c∧w.cell? ⟨b,i,none⟩=some (.bool ((u.getD k []).getD i false))∧w.frozen? ⟨b,i,none⟩=false∧base≤b∧b≠g:=by
 obtain ⟨b,c,hv,hc,hf,h1,h2⟩:=h.mem.at k (bools_at _ i hi)
 exact ⟨b,c,by simpa [bools] using hv,hc,hf,h1,h2⟩
theorem UsM.form (h:UsM base g w u V) (k:Nat):∃ p c,V k = .slice p (u.getD k []).length c:=by
 obtain ⟨p,c,e⟩:=ownsRow_form (h.mem.own k)
 exact ⟨p,c,by simpa [bools] using e⟩
theorem UsM.bit (h:UsM base g w u V) {k i:Nat} {b c:Nat} (hk:k<u.length) (hi:i<(u.getD k []).length) (hv:V k = .slice (some ⟨b,0,none⟩) (u.getD k []).length c) (x:Bool) :
  UsM base g (w.setCell ⟨b,i,none⟩ (.bool x)) (u.set k ((u.getD k []).set i x)) V∧Below base w (w.setCell ⟨b,i,none⟩ (.bool x)):=by
 obtain ⟨b',c',hv',_,_,hb,hbg⟩:=h.at hi
 rw [hv] at hv'
 cases hv'
 have hm:=h.mem.set k (.bool x) (i:=i) (by simpa [bools] using hi) hv
 have hR:(upd (λ k=>(V k,bools (u.getD k []))) k (V k,(bools (u.getD k [])).set i (.bool x)))=λ j=>(V j,bools ((u.set k ((u.getD k []).set i x)).getD j [])):=by
  funext j
  unfold upd
  rw [getD_set_us]
  by_cases e:j=k
  ·subst e;rw [if_pos rfl,if_pos ⟨rfl,hk⟩,bools_set]
  ·rw [if_neg e,if_neg (λ e'=>e e'.1.symm)]
 dsimp only at hm
 rw [hR] at hm
 refine ⟨⟨hm,?_,λ j hj => ?_⟩,(Below.refl _ _).setCell (show base≤(⟨b,i,none⟩:Addr).block from hb) _⟩
 ·rw [List.length_set]
  exact h.blk.other _ (Ne.symm hbg)
 ·rw [getD_set_us] at hj
  split at hj
  ·rename_i e
   obtain ⟨rfl,_⟩:=e
   have:(u.getD k []).length=0:=by have:=congrArg List.length hj;simpa using this
   omega
  ·exact h.nil j hj
theorem UsM.fresh (h:UsM base g w u V) {k n:Nat} (hk:k<u.length) (h0:u.getD k [] = []) (hn:0<n) (hm:n≤1000000) :
  UsM base g ((w.alloc (.cells (bools (List.replicate n false)).toArray 4)).setCell ⟨g,k,none⟩ (.slice (some ⟨w.heap.size,0,none⟩) n n)) (u.set k (List.replicate n false)) (λ j=>if j=k then .slice (some ⟨w.heap.size,0,none⟩) n n else V j) ∧
  Below base w ((w.alloc (.cells (bools (List.replicate n false)).toArray 4)).setCell ⟨g,k,none⟩ (.slice (some ⟨w.heap.size,0,none⟩) n n)):=by
 have hb:=Below.new w (.cells (bools (List.replicate n false)).toArray 4)
 have h1:=h.below hb
 have hg:g<w.heap.size:=h.mem.lt
 have hblk:=Blk.new (w:=w) 4 (bools (List.replicate n false))
 have hown:=hblk.own (n:=n) (size:=1) (by simp [bools]) (by simp only [maxLen];omega) base h.size
 have hm2:=h.mem.put k (v' := .slice (some ⟨w.heap.size,0,none⟩) n n) (n:=n) (xs:=bools (List.replicate n false)) (w':=w.alloc (.cells (bools (List.replicate n false)).toArray 4)) hown hb.size (λ b hb' => .inr (by have e:w.heap.size=b:=(by simpa [Value.ownBlock] using hb');omega)) (λ b hb' _=>hb.block b hb')
 have hR:(upd (λ k=>(V k,bools (u.getD k []))) k (.slice (some ⟨w.heap.size,0,none⟩) n n,bools (List.replicate n false)))=λ j=>((if j=k then .slice (some ⟨w.heap.size,0,none⟩) n n else V j),bools ((u.set k (List.replicate n false)).getD j [])):=by
  funext j
  unfold upd
  rw [getD_set_us]
  by_cases e:j=k
  ·subst e;simp [hk]
  ·have e':¬(k=j∧k<u.length):=λ h=>e h.1.symm
   simp [e,e']
 rw [hR] at hm2
 refine ⟨⟨hm2.keep (by simp) λ j b hbj=>Below.heap_setCell _ _ _ _ (λ e=>hm2.nb j (by rw [hbj,e])),?_,λ j hj => ?_⟩,(hb.mono h.size).setCell (show base≤(⟨g,k,none⟩:Addr).block from h.ge) _⟩
 ·rw [List.length_set,←range_map_upd V _ u.length k (.slice (some ⟨w.heap.size,0,none⟩) n n) (λ j _=>rfl)]
  exact h1.blk.set k _
 ·rw [getD_set_us] at hj
  split at hj
  ·exfalso
   have:=congrArg List.length hj
   simp at this
   omega
  ·rename_i e
   show (if j=k then _ else V j)=_
   rw [if_neg (λ e'=>e ⟨e'.symm,hk⟩)]
   exact h.nil j hj
end
def TOut (A:Nat→Prop) (n:Nat) (w:World) (e:Ending) (w':World):Prop :=
 ∃ h a cs,e = .returned (.agg cs.toArray)∧TR (λ b=>A b∨w.heap.size≤b) w' (.cons h a .nil) cs∧(TL.cons h a .nil).wf n∧Below w.heap.size w w'
theorem tr_one {A:Nat→Prop} {w:World} {h:TH} {a:TL} {cs:List Value} (ht:TR A w (.cons h a .nil) cs) :
  ∃ op sg val vl av ac,cs=tcells h op sg val av∧ROA A w val 1 vl.length (bools vl)∧vl.length≤128∧ROA A w av 8 a.len ac∧TR A w a ac:=by
 obtain ⟨hc,av,ac,cs',e,hl,⟨op,sg,val,vl,e2,hv,hvl⟩,hr,ha,hrr⟩:=ht
 have:cs' = []:=hrr
 subst this
 exact ⟨op,sg,val,vl,av,ac,by rw [e,e2,List.append_nil],hv,hvl,hr,ha⟩
theorem tr_mk {A:Nat→Prop} {w:World} {h:TH} {a:TL} {op:Int} {sg:Bool} {val:Value} {vl:List Bool} {av:Value} {ac:List Value} (hv:ROA A w val 1 vl.length (bools vl)) (hvl:vl.length≤128) (hr:ROA A w av 8 a.len ac) (ha:TR A w a ac):TR A w (.cons h a .nil) (tcells h op sg val av) :=
 ⟨_,av,ac, [],(List.append_nil _).symm,rfl,⟨op,sg,val,vl,rfl,hv,hvl⟩,hr,ha,rfl⟩
def TL.app:TL→TL→TL
 | .nil,s=>s
 | .cons h a r,s => .cons h a (r.app s)
theorem TL.app_len:∀ (t s:TL),(t.app s).len=t.len+s.len
 | .nil,s=>by simp [TL.app,TL.len]
 | .cons h a r,s=>by simp only [TL.app,TL.len,TL.app_len r s];omega
theorem TL.app_wf {n:Nat}:∀ {t s:TL},t.wf n→s.wf n→(t.app s).wf n
 | .nil,_,_,hs=>hs
 | .cons h a r,s,ht,hs=>⟨ht.1,ht.2.1,ht.2.2.1,ht.2.2.2.1,ht.2.2.2.2.1,ht.2.2.2.2.2.1,ht.2.2.2.2.2.2.1,ht.2.2.2.2.2.2.2.1,TL.app_wf ht.2.2.2.2.2.2.2.2 hs⟩
theorem TG.app {k:Nat} {E} {A:Nat→Prop} {w:World}:∀ {t s:TL} {cs ds:List Value},TG k E A w t cs→TG k E A w s ds→TG k E A w (t.app s) (cs++ds)
 | .nil,_,_,_,h,hs=>by have:_ = []:=h;subst this;exact hs
 | .cons h a r,_,_,_,⟨hc,av,ac,cs',e,hl,hh,hr,ha,hrr⟩,hs=>⟨hc,av,ac,cs'++_,by rw [e,List.append_assoc],hl,hh,hr,ha,hrr.app hs⟩
theorem TR.keep {A:Nat→Prop} {w w':World} {t:TL} {cs:List Value} (h:TR A w t cs) (hb:Below w.heap.size w w'):TR (λ b=>A b∨w.heap.size≤b) w' t cs :=
 h.turn ER.stay λ b hb1 hb2=>⟨.inl hb1,hb.block b hb2⟩
theorem tr_over {A:Nat→Prop} {w:World} {t:TL} {cs:List Value} (h:TR A w t cs) {g:Nat} (hg:Blk w g 76 cs) (hA:A g) (H:TH) (op:Int) (sg:Bool) :
  TR A w (.cons H t .nil) (tcells H op sg (.slice none 0 0) (.slice (some ⟨g,0,none⟩) t.len t.len)) :=
 tr_mk (vl := []) ROA.nil (by simp) (ROA.ofBlkS hg h.len hA) h
set_option maxRecDepth 100000 in
theorem wide_any {A:Nat→Prop} {n:Nat} {w:World} {h:TH} {a:TL} {cs:List Value} (ht:TR A w (.cons h a .nil) cs) (hw:(TL.cons h a .nil).wf n) (m:Nat) (hm:m≤1000) :
  Calls Try.prog 34 #[.agg cs.toArray,.int .i64 m] w (TOut A n w):=by
 obtain ⟨op,sg,val,vl,av,ac,rfl,hv,hvl,hr,ha⟩:=tr_one ht
 obtain ⟨pv,cv,rfl,hcv⟩:=hv.form
 obtain ⟨pa,ca,rfl,hca⟩:=hr.form
 have H:=Lib.hid (And.intro ht (And.intro hw (And.intro hv (And.intro hvl (And.intro hr (And.intro ha hm))))))
 obtain ⟨vn,hvn⟩:∃ vn,vl.length=vn:=⟨_,rfl⟩
 obtain ⟨an,han⟩:∃ an,a.len=an:=⟨_,rfl⟩
 have HN:=Lib.hid (And.intro hvn han)
 obtain ⟨k,hw0,s,lo⟩:=h
 have hk1:=H.out.2.1
 unfold tcells
 dsimp only at *
 rw [hvn,han]
 clear ht hw hv hvl hr ha hvn han hcv hca hk1
 have hb1:=Below.new w (.cells #[.int .i64 k,.int .i64 op,.int .i64 hw0,.int .i64 s,.int .i64 lo,.bool sg,.slice pv vn cv,.slice pa an ca] 76)
 have HB:=Lib.hid hb1
 clear hb1
 have hmi:IntKind.i64.wrap ((m:Int) % 2)=(m:Int) % 2:=i64_of (by omega)
 have hmt:(m:Int).tmod 2=(m:Int) % 2:=Int.tmod_eq_emod_of_nonneg (by omega)
 by_cases h1:hw0=m
 ·subst h1
  go_enter Try.func34,Try.ntmps34
  go_wp2_with fail
  refine bodyPost_ret (v := .agg #[.int .i64 k,.int .i64 op,.int .i64 hw0,.int .i64 s,.int .i64 lo,.bool sg,.slice pv vn cv,.slice pa an ca]) (by simp [results,Try.results34,go_sem]) rfl ?_
  have hb:=Below.next HB.out (Below.new _ (.cells #[.int .i64 k,.int .i64 op,.int .i64 hw0,.int .i64 s,.int .i64 lo,.bool sg,.slice pv vn cv,.slice pa an ca] 76))
  exact ⟨⟨k,hw0,s,lo⟩,a,tcells ⟨k,hw0,s,lo⟩ op sg (.slice pv vl.length cv) (.slice pa a.len ca),by rw [HN.out.1,HN.out.2];rfl,H.out.1.keep hb,H.out.2.1,hb⟩
 ·have hx:((hw0:Int) == (m:Int))=false:=by simp;omega
  by_cases h2:m<hw0
  ·have hgt:decide (m<hw0)=true:=decide_eq_true h2
   clear h1 h2
   go_enter Try.func34,Try.ntmps34
   go_wp2_with fail
   refine bodyPost_ret (v := .agg #[.int .i64 5,.int .i64 0,.int .i64 m,.int .i64 0,.int .i64 0,.bool false,.slice none 0 0,.slice (some ⟨w.heap.size+1+1,0,none⟩) 1 1]) (by simp [results,Try.results34,go_sem]) rfl ?_
   have hbb:∀ o1 o2,Below w.heap.size w (((w.alloc (.cells #[.int .i64 k,.int .i64 op,.int .i64 hw0,.int .i64 s,.int .i64 lo,.bool sg,.slice pv vn cv,.slice pa an ca] 76)).alloc o1).alloc o2):=λ o1 o2=>Below.next (Below.next HB.out (Below.new _ o1)) (Below.new _ o2)
   have hT:=H.out.1
   rw [HN.out.1,HN.out.2] at hT
   refine ⟨⟨5,m,0,0⟩,.cons ⟨k,hw0,s,lo⟩ a .nil,tcells ⟨5,m,0,0⟩ 0 false (.slice none 0 0) (.slice (some ⟨w.heap.size+1+1,0,none⟩) 1 1),rfl,tr_over (g:=w.heap.size+1+1) (hT.keep (hbb _ _)) ?_ ?_ ⟨5,m,0,0⟩ 0 false,⟨λ _=>(by simp),λ h=>(by simp at h),by simp,H.out.2.2.2.2.2.2,by simp,by simp,by simp [TL.len],H.out.2.1,trivial⟩,hbb _ _⟩
   ·have:=Blk.new (w:=(w.alloc (.cells #[.int .i64 k,.int .i64 op,.int .i64 hw0,.int .i64 s,.int .i64 lo,.bool sg,.slice pv vn cv,.slice pa an ca] 76)).alloc (.cells #[.int .i64 5,.int .i64 0,.int .i64 m,.int .i64 0,.int .i64 0,.bool false,.slice none 0 0,.slice (some ⟨w.heap.size+1+1,0,none⟩) 1 1] 76)) 76 (tcells ⟨k,hw0,s,lo⟩ op sg (.slice pv vn cv) (.slice pa an ca))
    rw [World.size_alloc,World.size_alloc] at this
    exact this
   ·exact .inr (by omega)
  ·have hgt:decide (m<hw0)=false:=decide_eq_false h2
   clear h1 h2
   go_enter Try.func34,Try.ntmps34
   go_wp2_with fail
   refine bodyPost_ret (v := .agg #[.int .i64 10,.int .i64 0,.int .i64 m,.int .i64 0,.int .i64 0,.bool ((m:Int) % 2 == 1),.slice none 0 0,.slice (some ⟨w.heap.size+1+1,0,none⟩) 1 1]) (by simp [results,Try.results34,go_sem]) rfl ?_
   have hbb:∀ o1 o2,Below w.heap.size w (((w.alloc (.cells #[.int .i64 k,.int .i64 op,.int .i64 hw0,.int .i64 s,.int .i64 lo,.bool sg,.slice pv vn cv,.slice pa an ca] 76)).alloc o1).alloc o2):=λ o1 o2=>Below.next (Below.next HB.out (Below.new _ o1)) (Below.new _ o2)
   have hT:=H.out.1
   rw [HN.out.1,HN.out.2] at hT
   refine ⟨⟨10,m,0,0⟩,.cons ⟨k,hw0,s,lo⟩ a .nil,tcells ⟨10,m,0,0⟩ 0 ((m:Int) % 2 == 1) (.slice none 0 0) (.slice (some ⟨w.heap.size+1+1,0,none⟩) 1 1),rfl,tr_over (g:=w.heap.size+1+1) (hT.keep (hbb _ _)) ?_ ?_ ⟨10,m,0,0⟩ 0 ((m:Int) % 2 == 1),⟨λ _=>(by simp),λ h=>(by simp at h),by simp,H.out.2.2.2.2.2.2,by simp,by simp,by simp [TL.len],H.out.2.1,trivial⟩,hbb _ _⟩
   ·have:=Blk.new (w:=(w.alloc (.cells #[.int .i64 k,.int .i64 op,.int .i64 hw0,.int .i64 s,.int .i64 lo,.bool sg,.slice pv vn cv,.slice pa an ca] 76)).alloc (.cells #[.int .i64 10,.int .i64 0,.int .i64 m,.int .i64 0,.int .i64 0,.bool ((m:Int) % 2 == 1),.slice none 0 0,.slice (some ⟨w.heap.size+1+1,0,none⟩) 1 1] 76)) 76 (tcells ⟨k,hw0,s,lo⟩ op sg (.slice pv vn cv) (.slice pa an ca))
    rw [World.size_alloc,World.size_alloc] at this
    exact this
   ·exact .inr (by omega)
end Go.Proofs.Ytlklleaocbnbcaa
