import Derived.WalkKit
import Derived.Below
import Derived.Lib.Hide
import Derived.Deep.QuietTactic
import Derived.BigQuiet
import Derived.Deep.AppendLies
import Derived.Deep.DeepMust
import Derived.ProofKit
import Derived.Deep.Slices
import Derived.OwnWalk
import Derived.SizedLaws
import Derived.OpenShut
import Derived.Lib.SmallJoins
import Derived.Laws.CopyOwn
import Derived.Lib.SliceRun
import Derived.StillTailTactics
import Derived.Deep.RegionHeld3
import Derived.Deep.CutRange
import Derived.BigRegion
import Derived.RegionTactic
import Derived.IntWalk
import Derived.Laws.Externs
namespace Go.Proofs.Ytlklleaocbnbcaa
set_option linter.unusedVariables false
open Go.RowKit Go.Deep Go.ChangeShapes Go.WideShapes
structure Upd (F F':Nat→Prop) (w w':World):Prop where
 os:w'.os=w.os
 tape:w'.tape=w.tape
 output:w'.output=w.output
 size:w.heap.size≤w'.heap.size
 block:∀ k,k<w.heap.size→¬F k→w'.heap[k]? = w.heap[k]?
 sub:∀ k,F' k→F k∨w.heap.size≤k
theorem Upd.refl (F:Nat→Prop) (w:World):Upd F F w w:=⟨rfl,rfl,rfl,Nat.le_refl _,λ _ _ _=>rfl,λ _ h => .inl h⟩
theorem Upd.trans {F F' F'' : Nat → Prop} {w w' w'' : World} (h : Upd F F' w w') (k : Upd F' F'' w' w'') : Upd F F'' w w'' :=
  ⟨k.os.trans h.os, k.tape.trans h.tape, k.output.trans h.output, Nat.le_trans h.size k.size,
   fun i hi hn => (k.block i (Nat.lt_of_lt_of_le hi h.size) (fun h' => by rcases h.sub i h' with h' | h'; exact hn h'; omega)).trans (h.block i hi hn),
   fun i hi => by rcases k.sub i hi with h' | h'; exact h.sub i h'; exact .inr (Nat.le_trans h.size h')⟩
theorem Upd.below {F:Nat→Prop} {w w':World} (h:Below w.heap.size w w'):Upd F F w w' :=
 ⟨h.os,h.tape,h.output,h.size,λ k hk _=>h.block k hk,λ _ h => .inl h⟩
theorem Upd.cell {F F':Nat→Prop} {w w':World} (h:Upd F F' w w') {a:Addr} {v:Value} (hc:w.cell? a=some v) (hn:¬F a.block):w'.cell? a=some v:=by
 rw [World.cell?_of_block (h.block _ (World.block_lt_of_cell? _ _ hc) hn)];exact hc
def ints (l:List Int):List Value:=l.map λ n => .int .i64 n
theorem ownsRow_form {w:World} {base e size v n xs} (h:w.ownsRow base e size v n xs):∃ p c,v = .slice p n c:=by
 rcases h.2 with ⟨rfl,rfl⟩ | ⟨g,cap,cur,rfl,_⟩
 ·exact ⟨_,_,rfl⟩
 ·exact ⟨_,_,rfl⟩
theorem ownsRow_keep {w w':World} {base e size v n xs} (h:w.ownsRow base e size v n xs) (hb:∀ k,v.ownBlock=some k→w'.heap[k]? = w.heap[k]?):w'.ownsRow base e size v n xs:=by
 refine ⟨h.1,?_⟩
 rcases h.2 with hn | ⟨g,cap,cur,rfl,hb',hgg,rest⟩
 ·exact .inl hn
 ·refine .inr ⟨g,cap,cur,rfl,hb',?_,rest⟩
  rw [hb g rfl];exact hgg
theorem some_lt {w:World} {k:Nat} {o:Obj} (h:w.heap[k]? = some o):k<w.heap.size:=by
 rcases Nat.lt_or_ge k w.heap.size with h' | h'
 ·exact h'
 ·rw [Array.getElem?_eq_none h'] at h;cases h
theorem below_drewN {B:Nat} {w:World} (n:Nat):Below B w (w.drewN n):=⟨rfl,rfl,rfl,Nat.le_refl _,λ _ _=>rfl⟩
theorem seg_one {w:World} {k:Nat} {t:TypeId} {f} {cs:Array Value} (h:w.heap[k]? = some (.cells cs t f)):∀ j u,cs.toList[j]? = some u→w.cell? ((⟨k,0,none⟩:Addr).add j)=some u:=by
 intro j u hu
 have hadd:(⟨k,0,none⟩:Addr).add j=⟨k,j,none⟩:=by unfold Addr.add;split <;> simp_all
 rw [hadd]
 simp [World.cell?,h];simpa using hu
def RO (w:World) (v:Value) (size n:Nat) (cs:List Value):Prop :=
 cs.length=n*size∧∃ p c,v = .slice p n c∧(∀ j u,cs[j]? = some u→∃ b o,p=some ⟨b,o,none⟩∧w.cell? ⟨b,o+j,none⟩=some u)
theorem RO.below {w w':World} {v size n cs} (h:RO w v size n cs) (hb:Below w.heap.size w w'):RO w' v size n cs:=by
 obtain ⟨h1,p,c,h2,h3⟩:=h
 refine ⟨h1,p,c,h2,λ j u hu => ?_⟩
 obtain ⟨b,o,e,hc⟩:=h3 j u hu
 exact ⟨b,o,e,(hb.cell (World.block_lt_of_cell? _ _ hc)).trans hc⟩
theorem RO.get {w:World} {v size n cs} (h:RO w v size n cs) {j:Nat} {u:Value} (hu:cs[j]? = some u):∃ b o c,v = .slice (some ⟨b,o,none⟩) n c∧w.cell? ⟨b,o+j,none⟩=some u:=by
 obtain ⟨h1,p,c,rfl,h3⟩:=h
 obtain ⟨b,o,rfl,hc⟩:=h3 j u hu
 exact ⟨b,o,c,rfl,hc⟩
theorem RO.sl {w:World} {p n c size n' cs} (h:RO w (.slice p n c) size n' cs) {j:Nat} {u:Value} (hu:cs[j]? = some u):∃ b o,p=some ⟨b,o,none⟩:=by
 obtain ⟨b,o,c',e,_⟩:=h.get hu
 simp only [Value.slice.injEq] at e
 exact ⟨b,o,e.1⟩
theorem RO.cell {w:World} {b o n c size n' cs} (h:RO w (.slice (some ⟨b,o,none⟩) n c) size n' cs) {j:Nat} {u:Value} (hu:cs[j]? = some u):w.cell? ⟨b,o+j,none⟩=some u:=by
 obtain ⟨b',o',c',e,hc⟩:=h.get hu
 simp only [Value.slice.injEq,Option.some.injEq,Addr.mk.injEq,and_true] at e
 obtain ⟨⟨rfl,rfl⟩,_⟩:=e
 exact hc
theorem RO.form {w:World} {v size n cs} (h:RO w v size n cs):∃ p c,v = .slice p n c:=by
 obtain ⟨h1,p,c,rfl,h3⟩:=h;exact ⟨p,c,rfl⟩
def Blk (w:World) (b:Nat) (t:TypeId) (l:List Value):Prop:=w.heap[b]? = some (.cells l.toArray t (0,0))
theorem Blk.cell {w:World} {b t l} (h:Blk w b t l) {i:Nat} {u:Value} (hu:l[i]? = some u):w.cell? ⟨b,i,none⟩=some u:=by
 unfold Blk at h;simp [World.cell?,h,hu]
theorem Blk.frz {w:World} {b t l} (h:Blk w b t l) (i:Nat):w.frozen? ⟨b,i,none⟩=false:=by unfold Blk at h;simp [World.frozen?,h]
theorem Blk.lt {w:World} {b t l} (h:Blk w b t l):b<w.heap.size:=some_lt h
theorem Blk.set {w:World} {b t l} (h:Blk w b t l) (i:Nat) (u:Value):Blk (w.setCell ⟨b,i,none⟩ u) b t (l.set i u):=by
 unfold Blk at *;simp [World.setCell,Array.getElem?_modify,h]
theorem Blk.other {w:World} {b t l} (h:Blk w b t l) {a:Addr} (u:Value) (hn:b≠a.block):Blk (w.setCell a u) b t l:=by
 unfold Blk at *;rw [Below.heap_setCell _ _ _ _ hn];exact h
theorem Blk.below {w w':World} {b t l} (h:Blk w b t l) {B:Nat} (hb:Below B w w') (hB:b<B):Blk w' b t l:=by
 unfold Blk at *;rw [hb.block b hB];exact h
theorem Blk.alloc {w:World} {b t l} (h:Blk w b t l) (o:Obj):Blk (w.alloc o) b t l:=by
 have:=h.lt
 unfold Blk at *;rw [heap_alloc_old _ _ this];exact h
theorem Blk.new {w:World} (t:TypeId) (l:List Value):Blk (w.alloc (.cells l.toArray t)) w.heap.size t l:=heap_alloc_new w _
theorem Blk.own {w:World} {b t l} (h:Blk w b t l) {n size:Nat} (hl:l.length=n*size) (hm:n≤maxLen) (base:Nat) (hb:base≤b):w.ownsRow base t size (.slice (some ⟨b,0,none⟩) n n) n l :=
 ⟨hl,.inr ⟨b,n,_,rfl,hb,h,Nat.le_refl _,hm,by simpa using hl,by rw [←hl];simp⟩⟩
def bools (l:List Bool):List Value:=l.map .bool
theorem bools_set (l:List Bool) (i:Nat) (b:Bool):(bools l).set i (.bool b)=bools (l.set i b):=by simp [bools,List.map_set]
theorem bools_at (l:List Bool) (i:Nat) (h:i<l.length):(bools l)[i]? = some (.bool (l.getD i false)):=by
 rw [bools,List.getElem?_map,List.getD,List.getElem?_eq_getElem h];rfl
theorem ints_at (l:List Int) (i:Nat) (h:i<l.length):(ints l)[i]? = some (.int .i64 (l.getD i 0)):=by
 rw [ints,List.getElem?_map,List.getD,List.getElem?_eq_getElem h];rfl
structure SlTy (P:Program) (t e size bytes:Nat) (z:Value):Prop where
 u:P.underlying t=some (.slice e)
 i:∃ i,P.info? e=some i∧i.zero=some z∧i.size=size∧i.bytes=bytes
 zs:z.cells.size=size
 sz:0<size
theorem SlTy.of {P:Program} {t e size bytes:Nat} {z:Value} (u:P.underlying t=some (.slice e)) (h:(P.info? e).map (λ i=>(i.zero,i.size,i.bytes))=some (some z,size,bytes)) (zs:z.cells.size=size) (sz:0<size):SlTy P t e size bytes z :=
 ⟨u,by obtain ⟨i0,hi,hz0,hz1,hz2⟩:=info_parts h;exact ⟨i0,hi,hz0,hz1,hz2⟩,zs,sz⟩
structure App (base e size:Nat) (w:World) (v:Value) (n m:Nat) (all:List Value) (g cap:Nat) (w':World):Prop where
 own:w'.ownsRow base e size (.slice (some ⟨g,0,none⟩) (n+m) cap) (n+m) all
 grown:w.grownBy w' v.ownBlock
 at_:v.ownBlock=some g∨g=w.heap.size
 lt:g<w'.heap.size
theorem App.old {base e size w v n m all g cap w'} (h:App base e size w v n m all g cap w') {k:Nat} (hk:k<w.heap.size) (hn:v.ownBlock≠some k):w'.heap[k]? = w.heap[k]? :=
 h.grown.block k hk (Ne.symm hn)
theorem App.below {base e size w v n m all g cap w' B w0} (h:App base e size w v n m all g cap w') (hb:Below B w0 w) (hB:B≤w.heap.size) (hv:∀ k,v.ownBlock=some k→B≤k):Below B w0 w' :=
 hb.grown h.grown hB hv
theorem seg_row {w:World} {k:Nat} {t:TypeId} {cs:Array Value} (h:w.heap[k]? = some (.cells cs t (0,0))) {l:List Value} (hl:cs.toList=l):∀ j u,l[j]? = some u→w.cell? ((⟨k,0,none⟩:Addr).add j)=some u:=by
 subst hl;exact seg_one h
theorem wpList_app {P:Program} {w:World} {ops:Array Oper} {rest:List Oper} {o:Oper} {a:Act} {Q:Exit→Act→World→Prop} (hgd:o.guard=none) (s x:Operand) (t:TypeId)
  (ho:o.op = .call { callee := .builtin .append,args := #[s,x],argTypes := #[t,t]})
  {e size bytes:Nat} {z:Value} (T:SlTy P t e size bytes z) (base:Nat)
  (v:Value) (n:Nat) (xs:List Value) (hs:a.eval s=v) (hown:w.ownsRow base e size v n xs)
  (b m c:Nat) (news:List Value) (hx:a.eval x = .slice (some ⟨b,0,none⟩) m c) (cs:Array Value) (hb:w.heap[b]? = some (.cells cs e (0,0))) (hcs:cs.toList=news) (hl:news.length=m*size) (h1:∀ u∈news,u.oneCell'=true)
  (hm:0<m) (hbytes:(n+m)*bytes≤140737488355328) (h63:n+m≤140737488355328) (hbase:base≤w.heap.size)
  (h:∀ g cap w',App base e size w v n m (xs++news) g cap w'→wpList P ops Q rest (a.put o.dst (.slice (some ⟨g,0,none⟩) (n+m) cap)) w'):wpList P ops Q (o::rest) a w:=by
 obtain ⟨i,hi,hz,hsz,hby⟩:=T.i
 exact wpList_append_lies w hgd s x t ho base e i z size bytes T.u hi hz hsz hby T.zs T.sz v n xs hs hown ⟨b,0,none⟩ m c news hx hl (seg_row hb hcs) h1 hm (by simp only [maxLen];omega) hbytes hbase _ rfl
  λ g cap w' h2 h3 h4 h5=>h g cap w' ⟨h2,h3,h4,h5⟩
theorem flatMap_at {α:Type} (f:α→List Value) (size:Nat) (hs:0<size) (hf:∀ y,(f y).length=size):∀ (l:List α) (j:Nat),(l.flatMap f)[j]? = (l[j / size]?).bind λ y=>(f y)[j % size]?
 | [],j=>by simp
 | y::l,j=>by
  rw [List.flatMap_cons]
  by_cases h:j<size
  ·rw [List.getElem?_append_left (by rw [hf];exact h),Nat.div_eq_of_lt h,Nat.mod_eq_of_lt h];rfl
  ·rw [List.getElem?_append_right (by rw [hf];omega),hf,flatMap_at f size hs hf l (j-size)]
   have h1:j / size=(j-size) / size+1:=by rw [←Nat.add_div_right _ hs];congr 1;omega
   have h2:j % size=(j-size) % size:=by rw [←Nat.add_mod_right (j-size) size];congr 1;omega
   rw [h1,h2,List.getElem?_cons_succ]
theorem flatMap_len {α:Type} (f:α→List Value) (size:Nat) (hf:∀ y,(f y).length=size):∀ (l:List α),(l.flatMap f).length=l.length*size
 | []=>by simp
 | y::l=>by rw [List.flatMap_cons,List.length_append,hf,flatMap_len f size hf l,List.length_cons,Nat.add_mul];omega
theorem ro_open {α:Type} [Inhabited α] {H:Type} {enc:TypeId × Value→H} {P:Program} {w:World} {t e size:Nat} {v:Value} {d:DataW H} {ps:List MemPlace} {r:Reach} {b0:Nat}
  (ht:P.underlying t=some (.slice e)) (hc:P.cellsOf e=size) (hs:0<size) (f:α→List Value) (hf:∀ y,(f y).length=size)
  (hval:Value.okWide P w r b0 t v) (h:DataW.Trod enc P w 0 (λ _=>true) true t v d ps)
  (hg:∀ fuel cs x,DataW.trod enc P w 0 (λ _=>true) true fuel e cs=some x→cs.length=size→∃ y:α,cs=f y) :
  ∃ l:List α,RO w v size l.length (l.flatMap f)∧l.length≤maxLen:=by
 obtain ⟨a0,len0,cap0,rfl⟩:=okWide_slice ht hval
 obtain ⟨fuel,hfu⟩:=h
 rcases open_slice ht hfu with ⟨hcs,_⟩ | ⟨a,len,cap,m,n,D,Pl,hcs,_,hl,hm,hmm,_,hel⟩
 ·simp [Value.cells] at hcs
  obtain ⟨rfl,rfl,rfl⟩:=hcs
  exact ⟨[],⟨by simp,none,0,rfl,by simp⟩,by simp [maxLen]⟩
 ·simp [Value.cells] at hcs
  obtain ⟨rfl,rfl,rfl⟩:=hcs
  have hlm:len0≤m:=by simpa using (by simpa using hmm:m=cap0) ▸ hl
  rw [hc] at hel
  have hch:∀ i,i<len0→∃ y:α,∀ r,r<size→w.cell? ((a.add (i*size)).add r)=(f y)[r]? := by
   intro i hi
   obtain ⟨cs',h1,h2⟩:=hel i (by omega)
   obtain ⟨_,h3,h4⟩:=World.cells?_some h1
   obtain ⟨y,rfl⟩:=hg _ _ _ h2 h3
   exact ⟨y,h4⟩
  obtain ⟨g,hgg⟩:=choose_lt hch
  refine ⟨(List.range len0).map g,⟨flatMap_len f size hf _,some a,cap0,by simp,?_⟩,by simp;omega⟩
  intro j u hu
  rw [flatMap_at f size hs hf] at hu
  simp only [List.getElem?_map,Option.bind_eq_some_iff] at hu
  obtain ⟨y,hy,hu⟩:=hu
  rw [Option.map_eq_some_iff] at hy
  obtain ⟨i,hi,rfl⟩:=hy
  have hjl:j / size<len0:=by
   rcases Nat.lt_or_ge (j / size) len0 with h | h
   ·exact h
   ·rw [List.getElem?_eq_none (by simpa using h)] at hi;cases hi
  rw [List.getElem?_range hjl] at hi
  obtain rfl:j / size=i:=by simpa using hi
  have hc0:=hgg 0 (Nat.lt_of_le_of_lt (Nat.zero_le _) hjl) 0 hs
  have hsp:a.spot=none:=by
   have h0:(a.add (0*size)).add 0=a:=by simp [Addr.add]
   rw [h0,List.getElem?_eq_getElem (by rw [hf];exact hs)] at hc0
   exact World.cell?_spot hc0
  obtain ⟨b,o,s⟩:=a
  simp only at hsp
  subst hsp
  refine ⟨b,o,rfl,?_⟩
  have:=hgg (j / size) hjl (j % size) (Nat.mod_lt _ hs)
  rw [hu,Addr.add_add] at this
  rw [show j / size*size+j % size=j by rw [Nat.mul_comm];exact Nat.div_add_mod j size] at this
  rw [←this]
  congr 1
  unfold Addr.add
  split <;> simp_all
structure AppR (base e size:Nat) (w:World) (v:Value) (n:Nat) (all:List Value) (v':Value) (w':World):Prop where
 own:w'.ownsRow base e size v' n all
 grown:w.grownBy w' v.ownBlock
 at_:v'.ownBlock=v.ownBlock∨v'.ownBlock=some w.heap.size
theorem AppR.below {base e size w v n all v' w' B w0} (h:AppR base e size w v n all v' w') (hb:Below B w0 w) (hB:B≤w.heap.size) (hv:∀ k,v.ownBlock=some k→B≤k):Below B w0 w' :=
 hb.grown h.grown hB hv
theorem run_append_nothing {P:Program} {w:World} (t ty e size:Nat) (ht:P.underlying t=some (.slice e)) {i:TypeInfo} (hi:P.info? e=some i) (p:Option Addr) (n c c':Nat) (hn:n≤c) :
  (Builtin.append_ #[t,t] ty #[.slice p n c,.slice none 0 c']).run P w = .ok (.slice p n c) w:=by
 cases p with
 | none=>simp [Builtin.append_,run_underlying ht,sizeOf,typeInfo,hi,Builtin.lenOf,Builtin.firstCells,hn]
 | some a=>simp [Builtin.append_,run_underlying ht,sizeOf,typeInfo,hi,Builtin.lenOf,Builtin.firstCells,hn,storeCells]
theorem ownsRow_le {w:World} {base e size n:Nat} {v:Value} {xs:List Value} (h:w.ownsRow base e size v n xs):∃ p c,v = .slice p n c∧n≤c:=by
 rcases h.2 with ⟨rfl,rfl⟩ | ⟨g,cap,cur,rfl,_,_,h1,_⟩
 ·exact ⟨_,_,rfl,Nat.le_refl _⟩
 ·exact ⟨_,_,rfl,h1⟩
theorem wpList_appR {P:Program} {w:World} {ops:Array Oper} {rest:List Oper} {o:Oper} {a:Act} {Q:Exit→Act→World→Prop} (hgd:o.guard=none) (s x:Operand) (t:TypeId)
  (ho:o.op = .call { callee := .builtin .append,args := #[s,x],argTypes := #[t,t]})
  {e size bytes:Nat} {z:Value} (T:SlTy P t e size bytes z) (base:Nat)
  (v:Value) (n:Nat) (xs:List Value) (hs:a.eval s=v) (hown:w.ownsRow base e size v n xs)
  (y:Value) (m:Nat) (news:List Value) (hx:a.eval x=y) (hy:RO w y size m news) (h1:∀ u∈news,u.oneCell'=true)
  (hbytes:(n+m)*bytes≤140737488355328) (h63:n+m≤140737488355328) (hbase:base≤w.heap.size)
  (h:∀ v' w',AppR base e size w v (n+m) (xs++news) v' w'→wpList P ops Q rest (a.put o.dst v') w'):wpList P ops Q (o::rest) a w:=by
 obtain ⟨i,hi,hz,hsz,hby⟩:=T.i
 have hml:n+m≤maxLen:=by simp only [maxLen];omega
 refine wpList_plain hgd λ K hK => ?_
 obtain ⟨hl,p,c,rfl,hcell⟩:=hy
 have hrun:∃ v' w',(Builtin.append_ #[t,t] o.type #[v,.slice p m c]).run P w = .ok v' w'∧AppR base e size w v (n+m) (xs++news) v' w':=by
  cases p with
  | none =>
   have hnil:news = []:=by
    cases news with
    | nil=>rfl
    | cons u r=>obtain ⟨b,o',hb,_⟩:=hcell 0 u rfl;cases hb
   subst hnil
   have hm:m=0:=by
    have h0:=T.sz
    have h1:m*size=0:=by simpa using hl.symm
    rcases Nat.mul_eq_zero.1 h1 with h2 | h2
    ·exact h2
    ·omega
   subst hm
   obtain ⟨p',c',rfl,hle⟩:=ownsRow_le hown
   exact ⟨_,w,run_append_nothing t o.type e size T.u hi p' n c' c hle,by simpa using hown,⟨rfl,rfl,rfl,Nat.le_refl _,λ _ _ _=>rfl⟩,.inl rfl⟩
  | some ad =>
   have hc:∀ j u,news[j]? = some u→w.cell? (ad.add j)=some u:=by
    intro j u hu
    obtain ⟨b,o',hb,hc⟩:=hcell j u hu
    obtain rfl:ad=⟨b,o',none⟩:=by simpa using hb
    have hadd:(⟨b,o',none⟩:Addr).add j=⟨b,o'+j,none⟩:=by unfold Addr.add;split <;> simp_all
    rw [hadd];exact hc
   obtain ⟨v',w',hr,h2,h3,_,h5⟩:=run_append_own_at (P:=P) w base t o.type e i z size bytes T.u hi hz hsz hby T.zs T.sz v n xs hown ad m c news hl hc h1 hml hbytes hbase
   exact ⟨v',w',hr,h2,h3,h5⟩
 obtain ⟨v',w',hr,hA⟩:=hrun
 unfold Oper.wp execOp
 simp only [ho,resolve,invoke,builtin,Sem.run_bind,Sem.run_pure,Result.andThen_ok,List.map_toArray,List.map_cons,List.map_nil,hs,hx,hr]
 exact hK _ _ (h v' w' hA)
theorem bools_one (l:List Bool):∀ u∈bools l,u.oneCell'=true:=by
 intro u hu
 simp only [bools,List.mem_map] at hu
 obtain ⟨x,_,rfl⟩:=hu;rfl
end Go.Proofs.Ytlklleaocbnbcaa
namespace Go.Proofs.Ytlklleaocbnbcaa
set_option linter.unusedVariables false
open Go.RowKit
structure After (w:World) where
 val:World
 below:Below w.heap.size w val
instance (w:World):Nonempty (After w):=⟨⟨w,Below.refl _ _⟩⟩
theorem After.cell {w:World} {a:Addr} {v:Value} (h:w.cell? a=some v) (s:After w):s.val.cell? a=some v:=(s.below.cell (World.block_lt_of_cell? _ _ h)).trans h
theorem aft {w W:World} {a:Addr} {v:Value} (h:w.cell? a=some v) (hb:Below w.heap.size w W):W.cell? a=some v:=After.cell h ⟨W,hb⟩
theorem Blk.drew {w:World} {b t l} (h:Blk w b t l):Blk w.drew b t l:=h
theorem Below.next {a b c:World} (h:Below a.heap.size a b) (k:Below b.heap.size b c):Below a.heap.size a c:=h.trans (k.mono h.size)
theorem Below.new (w:World) (o:Obj):Below w.heap.size w (w.alloc o):=(Below.refl _ _).alloc (Nat.le_refl _) o
theorem below_grown {B:Nat} {a b c:World} {g:Nat} (h:Below B a b) (k:b.grownBy c (some g)) (hB:B≤b.heap.size) (hg:B≤g):Below B a c :=
 h.grown k hB λ i hi=>by
  simp only [Option.some.injEq] at hi
  omega
theorem Blk.next {w w':World} {b t l} (h:Blk w b t l) (hb:Below w.heap.size w w'):Blk w' b t l:=h.below hb h.lt
structure Tr (w:World) (ls:List (Nat × Nat × List Value)) (W:World):Prop where
 bel:Below w.heap.size w W
 blk:∀ p∈ls,Blk W p.1 p.2.1 p.2.2
 ge:∀ p∈ls,w.heap.size≤p.1
 nd:(ls.map (·.1)).Nodup
theorem Tr.below {w W W':World} {ls} (h:Tr w ls W) (hb:Below W.heap.size W W'):Tr w ls W' :=
 ⟨h.bel.trans (hb.mono h.bel.size),λ p hp=>(h.blk p hp).below hb (h.blk p hp).lt,h.ge,h.nd⟩
theorem Tr.drew {w W:World} {ls} (h:Tr w ls W):Tr w ls W.drew:=h.below (Below.refl _ _).drew
theorem Tr.nil (w:World):Tr w [] w:=⟨Below.refl _ _,λ p hp=>(by cases hp),λ p hp=>(by cases hp),(by simp)⟩
theorem Tr.lay {w W:World} {ls} (h:Tr w ls W) (t:Nat) (l:List Value):Tr w ((W.heap.size,t,l)::ls) (W.alloc (.cells l.toArray t)):=by
 refine ⟨h.bel.alloc h.bel.size _,λ p hp => ?_,λ p hp => ?_,?_⟩
 ·rcases List.mem_cons.1 hp with rfl | hp
  ·exact Blk.new t l
  ·exact (h.blk p hp).alloc _
 ·rcases List.mem_cons.1 hp with rfl | hp
  ·exact h.bel.size
  ·exact h.ge p hp
 ·rw [List.map_cons,List.nodup_cons]
  refine ⟨λ hm => ?_,h.nd⟩
  obtain ⟨p,hp,e⟩:=List.mem_map.1 hm
  have:=(h.blk p hp).lt
  dsimp only at e;omega
theorem nodup_at {l:List Nat} (h:l.Nodup) {i j x:Nat} (hi:l[i]? = some x) (hj:l[j]? = some x):i=j:=by
 obtain ⟨h1,e1⟩:=List.getElem?_eq_some_iff.1 hi
 obtain ⟨h2,e2⟩:=List.getElem?_eq_some_iff.1 hj
 exact (List.getElem_inj h).1 (e1.trans e2.symm)
theorem Tr.upd {w W W':World} {ls} (h:Tr w ls W) (j:Nat) {b t:Nat} {l l':List Value} (hj:ls[j]? = some (b,t,l)) (hg:W.grownBy W' (some b)) (hk:Blk W' b t l'):Tr w (ls.set j (b,t,l')) W':=by
 have hm:(b,t,l)∈ls:=List.mem_of_getElem? hj
 have hjl:j<ls.length:=(List.getElem?_eq_some_iff.1 hj).1
 refine ⟨below_grown h.bel hg h.bel.size (h.ge _ hm),λ p hp => ?_,λ p hp => ?_,?_⟩
 ·obtain ⟨i,hi⟩:=List.mem_iff_getElem?.1 hp
  rw [List.getElem?_set] at hi
  by_cases e:j=i
  ·rw [if_pos e,if_pos hjl] at hi
   obtain rfl:=Option.some.inj hi
   exact hk
  ·rw [if_neg e] at hi
   have h1:=h.blk p (List.mem_of_getElem? hi)
   unfold Blk at *
   rw [hg.block p.1 (some_lt h1) (λ e2=>e ?_)]
   ·exact h1
   ·have e3:b=p.1:=by simpa [eq_comm] using e2
    exact nodup_at h.nd (x:=b) (by rw [List.getElem?_map,hj];rfl) (by rw [List.getElem?_map,hi,e3];rfl)
 ·rcases List.mem_or_eq_of_mem_set hp with hp | rfl
  ·exact h.ge p hp
  ·exact h.ge (b,t,l) hm
 ·rw [List.map_set]
  have:(ls.map (·.1)).set j b=ls.map (·.1):=by
   apply List.ext_getElem?
   intro i
   rw [List.getElem?_set]
   by_cases e:j=i
   ·subst e;rw [if_pos rfl,List.length_map,if_pos hjl,List.getElem?_map,hj];rfl
   ·rw [if_neg e]
  dsimp only
  rw [this];exact h.nd
theorem Tr.at {w W:World} {ls} (h:Tr w ls W) (j:Nat) {b t:Nat} {l:List Value} (hj:ls[j]? = some (b,t,l)):Blk W b t l:=h.blk _ (List.mem_of_getElem? hj)
theorem Tr.subs {w W:World} {ls ls'} (h:Tr w ls W) (hs:∀ p∈ls',p∈ls) (hnd:(ls'.map (·.1)).Nodup):Tr w ls' W:=⟨h.bel,λ p hp=>h.blk p (hs p hp),λ p hp=>h.ge p (hs p hp),hnd⟩
inductive Sp where
 | known (v:Value)
 | rel (ok:Value→World→Prop) (own:Value→List (Nat × Nat × List Value))
def Sp.val:Sp→Value→Value
 | .known v,_=>v
 | .rel _ _,u=>u
def Sp.ok:Sp→Value→World→Prop
 | .known v,u,_=>u=v
 | .rel ok _,u,w=>ok u w
def Sp.own:Sp→Value→List (Nat × Nat × List Value)
 | .known _,_ => []
 | .rel _ own,u=>own u
theorem Sp.val_ok {s:Sp} {u:Value} {w:World} (h:s.ok u w):s.val u=u:=by
 cases s with
 | known v=>exact (show u=v from h).symm
 | rel _ _=>rfl
def Sp.Mono (s:Sp):Prop:=∀ u w w',Below w.heap.size w w'→s.ok u w→s.ok u w'
theorem Sp.Mono.known {v:Value}:(Sp.known v).Mono:=λ _ _ _ _ h=>h
def spAt (sp:List Sp) (j:Nat):Sp:=sp.getD j (.known undef)
def Sp.box (t:Nat) (l:List Value):Sp := .rel (λ v _=>∃ L,v = .pointer (some ⟨L,0,none⟩)) λ v=>match v with
 | .pointer (some a) => [(a.block,t,l)]
 | _ => []
def MonoAll:List Sp→Prop
 | []=>True
 | s::sp=>s.Mono∧MonoAll sp
theorem MonoAll.get {sp:List Sp} (h:MonoAll sp) (j:Nat):(spAt sp j).Mono:=by
 induction sp generalizing j with
 | nil=>exact Sp.Mono.known
 | cons s sp ih =>
  cases j with
  | zero=>exact h.1
  | succ j=>exact ih h.2 j
def fillL (listed:Nat→Bool):List Oper→List Sp→(Nat→Value)→Nat→Act→Act
 | o::ops,s::sp,u,j,a=>fillL listed ops sp u (j+1) (if listed j then a.put o.dst (s.val (u j)) else a)
 | [],_,_,_,a=>a
 | _::_, [],_,_,a=>a
def ownsL (listed:Nat→Bool):List Sp→(Nat→Value)→Nat→List (Nat × Nat × List Value)
 | [],_,_ => []
 | s::sp,u,j=>(if listed j then s.own (u j) else [])++ownsL listed sp u (j+1)
def okAll (e:Nat→Bool):List Sp→(Nat→Value)→Nat→World→Prop
 | [],_,_,_=>True
 | s::sp,u,j,w=>(e j=true→s.ok (u j) w)∧okAll e sp u (j+1) w
theorem fill_congr {l l':Nat→Bool} {u u':Nat→Value}:∀ (ops:List Oper) (sp:List Sp) (j:Nat) (a:Act),(∀ k,j≤k→l k=l' k)→(∀ k,j≤k→u k=u' k)→fillL l ops sp u j a=fillL l' ops sp u' j a
 | [],_,_,_,_,_=>by simp [fillL]
 | _::_, [],_,_,_,_=>by simp [fillL]
 | o::ops,s::sp,j,a,h,hu=>by
  simp only [fillL]
  rw [h j (Nat.le_refl _),hu j (Nat.le_refl _)]
  exact fill_congr ops sp (j+1) _ (λ k hk=>h k (by omega)) (λ k hk=>hu k (by omega))
theorem fill_comm {l:Nat→Bool} {u:Nat→Value} {d:Tmp} {v:Value}:∀ (ops:List Oper) (sp:List Sp) (j:Nat) (a:Act),(∀ k o,l (j+k)=true→ops[k]? = some o→o.dst≠some d)→fillL l ops sp u j (a.put (some d) v)=(fillL l ops sp u j a).put (some d) v
 | [],_,_,_,_=>by simp [fillL]
 | _::_, [],_,_,_=>by simp [fillL]
 | o::ops,s::sp,j,a,h=>by
  simp only [fillL]
  have h':∀ k o',l (j+1+k)=true→ops[k]? = some o'→o'.dst≠some d:=λ k o' hk ho=>h (k+1) o' (by rwa [show j+(k+1)=j+1+k by omega]) (by simpa using ho)
  have ih:=fill_comm (l:=l) (u:=u) (d:=d) (v:=v) ops sp (j+1)
  split
  ·rename_i hj
   rw [Act.put_comm a v _ (λ e he=>by cases he;exact h 0 o hj rfl),ih _ h']
  ·exact ih _ h'
theorem fill_set {e l l':Nat→Bool} {u u':Nat→Value} {d:Tmp}:∀ (ops:List Oper) (sp:List Sp) (j k:Nat) (a:Act) (o:Oper),k<sp.length→ops[k]? = some o→o.dst=some d→(∀ k,l k=true→e k=true)→(∀ k' o',k'≠k→e (j+k')=true→ops[k']? = some o'→o'.dst≠some d) →
  l (j+k)=false→l' (j+k)=true→(∀ i,i≠j+k→l' i=l i)→(∀ i,i≠j+k→u' i=u i)→fillL l' ops sp u' j a=(fillL l ops sp u j a).put (some d) ((spAt sp k).val (u' (j+k)))
 | [],_,_,_,_,_,_,h,_,_,_,_,_,_,_=>by simp at h
 | _::_, [],_,_,_,_,h,_,_,_,_,_,_,_,_=>by simp at h
 | o1::ops,s::sp,j,0,a,o,_,ho,hd,hle,hne,h0,h1,hl,hu=>by
  simp only [Nat.add_zero] at h0 h1 hl hu ⊢
  obtain rfl:o1=o:=by simpa using ho
  simp only [fillL,h0,h1,if_true,Bool.false_eq_true,if_false,hd]
  rw [fill_congr (l:=l') (l':=l) (u:=u') (u':=u) ops sp (j+1) _ (λ k hk=>hl k (by omega)) (λ k hk=>hu k (by omega))]
  exact fill_comm ops sp (j+1) a (λ k o' hk ho'=>hne (k+1) o' (by omega) (by rw [show j+(k+1)=j+1+k by omega];exact hle _ hk) (by simpa using ho'))
 | o1::ops,s::sp,j,k+1,a,o,hk,ho,hd,hle,hne,h0,h1,hl,hu=>by
  simp only [fillL]
  rw [hl j (by omega),hu j (by omega)]
  have:=fill_set (e:=e) (l:=l) (l':=l') (u:=u) (u':=u') (d:=d) ops sp (j+1) k (if l j then a.put o1.dst (s.val (u j)) else a) o (by simpa using hk) (by simpa using ho) hd hle
   (λ k' o' hk' hlt ho'=>hne (k'+1) o' (by omega) (by rwa [show j+(k'+1)=j+1+k' by omega]) (by simpa using ho')) (by rw [←h0];congr 1;omega) (by rw [←h1];congr 1;omega) (λ i hi=>hl i (by omega)) (λ i hi=>hu i (by omega))
  rw [this]
  rw [show j+1+k=j+(k+1) by omega]
  rfl
theorem put_size (a:Act) (d:Option Tmp) (v:Value):(a.put d v).tmps.size=a.tmps.size:=by cases d <;> simp [Act.put]
theorem fill_size {l:Nat→Bool} {u:Nat→Value}:∀ (ops:List Oper) (sp:List Sp) (j:Nat) (a:Act),(fillL l ops sp u j a).tmps.size=a.tmps.size
 | [],_,_,_=>by simp [fillL]
 | _::_, [],_,_=>by simp [fillL]
 | o::ops,s::sp,j,a=>by
  simp only [fillL]
  rw [fill_size]
  split
  ·exact put_size _ _ _
  ·rfl
theorem put_get {a b:Act} {d:Option Tmp} {v:Value} {t:Tmp} (h:a.tmps[t]? = b.tmps[t]?) (hs:a.tmps.size=b.tmps.size):(a.put d v).tmps[t]? = (b.put d v).tmps[t]? := by
 cases d with
 | none=>exact h
 | some d =>
  simp only [Act.put,Array.getElem?_setIfInBounds]
  rw [h,hs]
theorem put_get_ne {b:Act} {d:Option Tmp} {v:Value} {t:Tmp} (h:d≠some t):(b.put d v).tmps[t]? = b.tmps[t]? := by
 cases d with
 | none=>rfl
 | some d =>
  have:d≠t:=λ e=>h (by rw [e])
  simp [Act.put,Array.getElem?_setIfInBounds_ne this]
theorem fill_get {l e:Nat→Bool} {u:Nat→Value} {t:Tmp}:∀ (ops:List Oper) (sp:List Sp) (j:Nat) (a b:Act),a.tmps[t]? = b.tmps[t]? → a.tmps.size=b.tmps.size →
  (∀ k,l k=true→e k=true)→(∀ k o,ops[k]? = some o→e (j+k)=true→o.dst=some t→l (j+k)=true)→(fillL l ops sp u j a).tmps[t]? = (fillL e ops sp u j b).tmps[t]?
 | [],_,_,_,_,h,_,_,_=>by simpa [fillL] using h
 | _::_, [],_,_,_,h,_,_,_=>by simpa [fillL] using h
 | o::ops,s::sp,j,a,b,h,hs,he,hl=>by
  simp only [fillL]
  have hl':∀ k o',ops[k]? = some o'→e (j+1+k)=true→o'.dst=some t→l (j+1+k)=true:=λ k o' ho hk hd=>by
   have:=hl (k+1) o' (by simpa using ho) (by rwa [show j+(k+1)=j+1+k by omega]) hd
   rwa [show j+1+k=j+(k+1) by omega]
  by_cases hj:l j=true
  ·rw [if_pos hj,if_pos (he j hj)]
   exact fill_get ops sp (j+1) _ _ (put_get h hs) (by rw [put_size,put_size];exact hs) he hl'
  ·rw [if_neg hj]
   by_cases hj2:e j=true
   ·rw [if_pos hj2]
    refine fill_get ops sp (j+1) _ _ ?_ (by rw [put_size];exact hs) he hl'
    rw [put_get_ne λ e'=>hj (hl 0 o rfl hj2 e')];exact h
   ·rw [if_neg hj2]
    exact fill_get ops sp (j+1) _ _ h hs he hl'
theorem owns_none {l:Nat→Bool} {u:Nat→Value}:∀ (sp:List Sp) (j:Nat),(∀ k,l k=false)→ownsL l sp u j = []
 | [],_,_=>rfl
 | s::sp,j,h=>by simp only [ownsL,h j,Bool.false_eq_true,if_false,List.nil_append];exact owns_none sp (j+1) h
theorem fill_none {l:Nat→Bool} {u:Nat→Value}:∀ (ops:List Oper) (sp:List Sp) (j:Nat) (a:Act),(∀ k,l k=false)→fillL l ops sp u j a=a
 | [],_,_,_,_=>by simp [fillL]
 | _::_, [],_,_,_=>by simp [fillL]
 | o::ops,s::sp,j,a,h=>by simp only [fillL,h j,Bool.false_eq_true,if_false];exact fill_none ops sp (j+1) a h
theorem owns_congr {l l':Nat→Bool} {u u':Nat→Value}:∀ (sp:List Sp) (j:Nat),(∀ k,j≤k→l k=l' k)→(∀ k,j≤k→u k=u' k)→ownsL l sp u j=ownsL l' sp u' j
 | [],_,_,_=>rfl
 | s::sp,j,h,hu=>by
  simp only [ownsL]
  rw [h j (Nat.le_refl _),hu j (Nat.le_refl _),owns_congr sp (j+1) (λ k hk=>h k (by omega)) (λ k hk=>hu k (by omega))]
theorem owns_set {l l':Nat→Bool} {u u':Nat→Value}:∀ (sp:List Sp) (j k:Nat),k<sp.length→l (j+k)=false→l' (j+k)=true→(∀ i,i≠j+k→l' i=l i)→(∀ i,i≠j+k→u' i=u i) →
  (ownsL l' sp u' j).Perm ((spAt sp k).own (u' (j+k))++ownsL l sp u j)
 | [],_,_,h,_,_,_,_=>by simp at h
 | s::sp,j,0,_,h0,h1,hl,hu=>by
  simp only [Nat.add_zero] at *
  simp only [ownsL,h0,h1,if_true,Bool.false_eq_true,if_false,List.nil_append]
  rw [owns_congr (l:=l') (l':=l) (u:=u') (u':=u) sp (j+1) (λ k hk=>hl k (by omega)) (λ k hk=>hu k (by omega))]
  exact List.Perm.refl _
 | s::sp,j,k+1,hk,h0,h1,hl,hu=>by
  simp only [ownsL]
  rw [hl j (by omega),hu j (by omega)]
  have ih:=owns_set (l:=l) (l':=l') (u:=u) (u':=u') sp (j+1) k (by simpa using hk) (by rw [←h0];congr 1;omega) (by rw [←h1];congr 1;omega) (λ i hi=>hl i (by omega)) (λ i hi=>hu i (by omega))
  rw [show j+1+k=j+(k+1) by omega] at ih
  refine (List.Perm.append_left _ ih).trans ?_
  rw [←List.append_assoc,←List.append_assoc]
  exact List.Perm.append_right _ List.perm_append_comm
theorem Tr.perm {w W:World} {ls ls'} (h:Tr w ls W) (hp:ls'.Perm ls):Tr w ls' W :=
 ⟨h.bel,λ p hm=>h.blk p (hp.mem_iff.1 hm),λ p hm=>h.ge p (hp.mem_iff.1 hm),(hp.map (·.1)).nodup_iff.2 h.nd⟩
theorem Tr.many {w W W':World} {ls bs} (h:Tr w ls W) (hb:Below W.heap.size W W') (hk:∀ p∈bs,Blk W' p.1 p.2.1 p.2.2∧W.heap.size≤p.1) (hn:(bs.map (·.1)).Nodup):Tr w (bs++ls) W':=by
 have h':=h.below hb
 refine ⟨h'.bel,λ p hp => ?_,λ p hp => ?_,?_⟩
 ·rcases List.mem_append.1 hp with hp | hp
  ·exact (hk p hp).1
  ·exact h'.blk p hp
 ·rcases List.mem_append.1 hp with hp | hp
  ·have:=(hk p hp).2;have:=h.bel.size;omega
  ·exact h.ge p hp
 ·rw [List.map_append,List.nodup_append]
  refine ⟨hn,h.nd,λ x hx y hy e => ?_⟩
  obtain ⟨p,hp,e1⟩:=List.mem_map.1 hx
  obtain ⟨q,hq,e2⟩:=List.mem_map.1 hy
  have h1:=(hk p hp).2
  have h2:=(h.blk q hq).lt
  omega
theorem Tr.base {w W:World} {bs ls} (h:Tr w (bs++ls) W):Tr w ls W :=
 ⟨h.bel,λ p hp=>h.blk p (List.mem_append_right _ hp),λ p hp=>h.ge p (List.mem_append_right _ hp),by have:=h.nd;rw [List.map_append,List.nodup_append] at this;exact this.2.1⟩
def depB (o:Oper) (j:Nat):Bool:=o.after.any λ e=>Region.binds .any e && e.on == j
def earlyB (es:List Nat) (j:Nat):Bool:=es.getD j 0 != 0
def freeB (es:List Nat) (j:Nat):Bool:=es.getD j 0 == 2
def early (es:List Nat):List Nat:=(List.range es.length).filter (earlyB es)
theorem mem_early {es:List Nat} {j:Nat}:j∈early es↔earlyB es j=true:=by
 unfold early
 rw [List.mem_filter,List.mem_range]
 refine ⟨λ h=>h.2,λ h=>⟨?_,h⟩⟩
 rcases Nat.lt_or_ge j es.length with h' | h'
 ·exact h'
 ·unfold earlyB at h
  rw [List.getD,List.getElem?_eq_none h'] at h
  cases h
def okAt (sp:List Sp) (j:Nat) (v:Value) (w:World):Prop:=(spAt sp j).ok v w
def ownAt (sp:List Sp) (j:Nat) (v:Value):List (Nat × Nat × List Value):=(spAt sp j).own v
def WebPure (P:Program) (ops:Array Oper) (w0:World) (base:List (Nat × Nat × List Value)) (sp:List Sp) (A:(Nat→Value)→Act) (i:Nat):Prop :=
 ∀ o,ops[i]? = some o→∀ u w,Tr w0 base w→(∀ j,depB o j=true→okAt sp j (u j) w)→∃ v,Yields P ops o v (A u)∧okAt sp i v w∧ownAt sp i v = []
def WebOb (P:Program) (ops:Array Oper) (w0:World) (base:List (Nat × Nat × List Value)) (sp:List Sp) (A:(Nat→Value)→Act) (i:Nat):Prop :=
 ∀ o,ops[i]? = some o→∀ u w,Tr w0 base w→(∀ j,depB o j=true→okAt sp j (u j) w)→∀ (Q:Exit→Act→World→Prop) (K:Act→World→Prop),
  Shut (∀ v w',Below w.heap.size w w'→okAt sp i v w'→(∀ p∈ownAt sp i v,Blk w' p.1 p.2.1 p.2.2∧w.heap.size≤p.1)→((ownAt sp i v).map (·.1)).Nodup→K ((A u).put o.dst v) w') →
  if Region.wanted o (yielded ops (A u).tmps)=true then o.wp P (A u) w K Q else K ((A u).put o.dst undef) w
theorem put_inj {a:Act} {d:Tmp} {v u:Value} (hd:d<a.tmps.size) (h:a.put (some d) v=a.put (some d) u):v=u:=by
 have h1:=congrArg (λ x:Act=>x.tmps[d]?) h
 simpa [Act.put,hd] using h1
theorem wp_move {P:Program} {o:Oper} {a b:Act} {w:World} {F:Value→World→Prop} {K:Act→World→Prop} {Q:Exit→Act→World→Prop} {d:Tmp} (hd:o.dst=some d) (hsz:d<b.tmps.size)
  (he:execOp a.eval o=execOp b.eval o) (hK:∀ v w',F v w'→K (a.put o.dst v) w')
  (h:o.wp P b w (λ b' w'=>∃ v,b'=b.put o.dst v∧F v w') (λ _ _ _=>False)):o.wp P a w K Q:=by
 have key:∀ v w',(∃ u,b.put o.dst v=b.put o.dst u∧F u w')→K (a.put o.dst v) w':=by
  rintro v w' ⟨u,e,hF⟩
  rw [hd] at e
  obtain rfl:=put_inj hsz e
  exact hK _ _ hF
 unfold Oper.wp at *
 rw [he]
 generalize (execOp b.eval o).run P w=r at *
 cases r with
 | ok n w' =>
  cases n <;> simp only [Oper.upon] at h ⊢
  case value v=>exact key _ _ h
  case skip=>exact key _ _ h
  case defer df =>
   obtain ⟨u,e,_⟩:=h
   have h1:=congrArg (λ x:Act=>x.defers) e
   rw [hd] at h1
   have h2:=congrArg List.length h1
   simp [Act.put] at h2
  case enter f args =>
   refine Calls.mono h λ e w'' he => ?_
   cases e with
   | returned v=>exact key _ _ he
   | panicked c=>exact he.elim
   | outgrown=>obtain ⟨_,_,h⟩:=he;exact h.elim
  case row row args=>exact Rows.mono h λ v w'' he=>key _ _ he
 | halt x w'=>cases x <;> simp only [Oper.upon] at h
theorem wpAny_more {P:Program} {md:Region.Mode} {ops:Array Oper} {Q:Exit→Act→World→Prop}:∀ (k:Nat) (listed:Array Bool) (a:Act) (w:World),wpAny P md ops Q k listed a w→wpAny P md ops Q (k+1) listed a w
 | 0,_,_,_,h=>⟨λ _=>h.2,by rw [h.1];simp⟩
 | k+1,_,_,_,h=>⟨h.1,λ i hi=>wpOp_mono (λ a' w' h'=>wpAny_more k _ a' w' h') (h.2 i hi)⟩
theorem wpAny_le {P : Program} {md : Region.Mode} {ops : Array Oper} {Q : Exit → Act → World → Prop} {listed : Array Bool} {a : Act} {w : World} {k m : Nat} (hkm : k ≤ m) (h : wpAny P md ops Q k listed a w) : wpAny P md ops Q m listed a w := by
  induction m with
  | zero => obtain rfl : k = 0 := by omega
            exact h
  | succ m ih =>
    by_cases e : k = m + 1
    · subst e; exact h
    · exact wpAny_more _ _ _ _ (ih (by omega))
theorem web_looks {ops:Array Oper} {o:Oper} {a b:Act} (hs:∀ cs c,o.op ≠ .select cs c) (h:∀ t∈o.looksAt ops,a.tmps[t]? = b.tmps[t]?) :
  execOp a.eval o=execOp b.eval o∧Region.wanted o (yielded ops a.tmps)=Region.wanted o (yielded ops b.tmps):=by
 constructor
 ·refine execOp_congr o hs λ x hx => ?_
  cases x with
  | tmp t =>
   have:=h t (List.mem_append_left _ (List.mem_filterMap.2 ⟨.tmp t,by simpa using hx,rfl⟩))
   show a.tmps.getD t undef=b.tmps.getD t undef
   rw [Array.getD_eq_getD_getElem?,Array.getD_eq_getD_getElem?,this]
  | _=>rfl
 ·unfold Region.wanted
  cases hg:o.guard with
  | none=>rfl
  | some gw =>
   obtain ⟨g,want⟩:=gw
   have hy:yielded ops a.tmps g=yielded ops b.tmps g:=by
    unfold yielded
    cases ht:(ops[g]?).bind (·.dst) with
    | none=>rfl
    | some t =>
     have:=h t (by simp [Oper.looksAt,hg,ht])
     simp [this]
   simp only [hy]
theorem least {p:Nat→Prop}:∀ n,p n→∃ i,i≤n∧p i∧∀ j,j<i→¬p j:=by
 intro n
 induction n using Nat.strongRecOn with
 | ind n ih =>
  intro h
  by_cases hx:∃ j,j<n∧p j
  ·obtain ⟨j,hj,hp⟩:=hx
   obtain ⟨i,h1,h2,h3⟩:=ih j hj hp
   exact ⟨i,by omega,h2,h3⟩
  ·exact ⟨n,Nat.le_refl _,h,λ j hj hp=>hx ⟨j,hj,hp⟩⟩
theorem okAll_of {e:Nat→Bool} {u:Nat→Value} {w:World}:∀ (sp:List Sp) (j:Nat),(∀ k,k<sp.length→e (j+k)=true→okAt sp k (u (j+k)) w)→okAll e sp u j w
 | [],_,_=>trivial
 | s::sp,j,h=>⟨λ he=>h 0 (by simp) he,okAll_of sp (j+1) λ k hk he=>by
   have:=h (k+1) (by simpa using hk)
   rw [show j+1+k=j+(k+1) by omega] at he ⊢
   exact this he⟩
theorem getD_tf {listed:Array Bool} {j:Nat} (h:listed.getD j true=false):j<listed.size∧listed.getD j false=false:=by
 rcases Nat.lt_or_ge j listed.size with h' | h'
 ·refine ⟨h',?_⟩
  rw [Array.getD_eq_getD_getElem?] at h ⊢
  rw [Array.getElem?_eq_getElem h'] at h ⊢
  exact h
 ·rw [Array.getD_eq_getD_getElem?,Array.getElem?_eq_none h'] at h
  cases h
theorem getD_ft {listed:Array Bool} {j:Nat} (hj:j<listed.size) (h:listed.getD j false=false):listed.getD j true=false:=by
 rw [Array.getD_eq_getD_getElem?] at h ⊢
 rw [Array.getElem?_eq_getElem hj] at h ⊢
 exact h
theorem getD_set {listed:Array Bool} {i j:Nat} (hi:i<listed.size):(listed.setIfInBounds i true).getD j false=if j=i then true else listed.getD j false:=by
 rw [Array.getD_eq_getD_getElem?,Array.getD_eq_getD_getElem?,Array.getElem?_setIfInBounds]
 by_cases e:i=j
 ·subst e;simp [hi]
 ·rw [if_neg e,if_neg (λ h=>e h.symm)]
def ObAll (p q:Nat→Prop):List Nat→Nat→Prop
 | [],_=>True
 | b::es,i=>(b≠0→b≠2→p i)∧(b=2→q i)∧ObAll p q es (i+1)
theorem ObAll.out {p q:Nat→Prop}:∀ {es:List Nat} {k:Nat},ObAll p q es k→∀ i,(earlyB es i=true→freeB es i=false→p (k+i))∧(freeB es i=true→q (k+i))
 | [],_,_,i=>by simp [earlyB,freeB]
 | b::es,k,h,0=>⟨λ h1 h2=>h.1 (by simpa [earlyB] using h1) (by simpa [freeB] using h2),λ h2=>h.2.1 (by simpa [freeB] using h2)⟩
 | b::es,k,h,i+1=>by
  have:=ObAll.out h.2.2 i
  rw [show k+1+i=k+(i+1) by omega] at this
  exact ⟨λ h1 h2=>this.1 (by simpa [earlyB] using h1) (by simpa [freeB] using h2),λ h2=>this.2 (by simpa [freeB] using h2)⟩
theorem ob_yes {p q:Nat→Prop} {es:List Nat} {i:Nat} (h:p i) (hs:ObAll p q es (i+1)):ObAll p q (1::es) i:=⟨λ _ _=>h,λ h=>(by cases h),hs⟩
theorem ob_pure {p q:Nat→Prop} {es:List Nat} {i:Nat} (h:q i) (hs:ObAll p q es (i+1)):ObAll p q (2::es) i:=⟨λ _ h2=>absurd rfl h2,λ _=>h,hs⟩
theorem ob_nil {p q:Nat→Prop} {i:Nat}:ObAll p q [] i:=trivial
theorem web_pure {P:Program} {ops:Array Oper} {w0:World} {base:List (Nat × Nat × List Value)} {sp:List Sp} {A:(Nat→Value)→Act} {i:Nat} {o:Oper} (ho:ops.toList[i]? = some o)
  (h:∀ u w,Tr w0 base w→(∀ j,depB o j=true→okAt sp j (u j) w)→∃ v,Yields P ops o v (A u)∧okAt sp i v w∧ownAt sp i v = []):WebPure P ops w0 base sp A i:=λ o' ho'=>by
 obtain rfl:o=o':=by
  have:ops[i]? = some o:=by simpa using ho
  rw [this] at ho'
  exact Option.some.inj ho'
 exact h
theorem web_op {P:Program} {ops:Array Oper} {w0:World} {base:List (Nat × Nat × List Value)} {sp:List Sp} {A:(Nat→Value)→Act} {i:Nat} {o:Oper} (ho:ops.toList[i]? = some o)
  (h:∀ u w,Tr w0 base w→(∀ j,depB o j=true→okAt sp j (u j) w)→∀ (Q:Exit→Act→World→Prop) (K:Act→World→Prop),
   Shut (∀ v w',Below w.heap.size w w'→okAt sp i v w'→(∀ p∈ownAt sp i v,Blk w' p.1 p.2.1 p.2.2∧w.heap.size≤p.1)→((ownAt sp i v).map (·.1)).Nodup→K ((A u).put o.dst v) w') →
   if Region.wanted o (yielded ops (A u).tmps)=true then o.wp P (A u) w K Q else K ((A u).put o.dst undef) w):WebOb P ops w0 base sp A i:=λ o' ho'=>by
 obtain rfl:o=o':=by
  have:ops[i]? = some o:=by simpa using ho
  rw [this] at ho'
  exact Option.some.inj ho'
 exact h
end Go.Proofs.Ytlklleaocbnbcaa
namespace Go.Proofs.Ytlklleaocbnbcaa
set_option linter.unusedVariables false
open Go.RowKit
def fillC:List Nat→List Oper→List Sp→(Nat→Value)→Nat→Act→Act
 | e::es,o::ops,s::sp,u,j,a=>fillC es ops sp u (j+1) (bif e == 0 then a else a.put o.dst (s.val (u j)))
 | [],_,_,_,_,a=>a
 | _::_, [],_,_,_,a=>a
 | _::_,_::_, [],_,_,a=>a
def ownsC:List Nat→List Sp→(Nat→Value)→Nat→List (Nat × Nat × List Value)
 | e::es,s::sp,u,j=>(bif e == 0 then [] else s.own (u j))++ownsC es sp u (j+1)
 | [],_,_,_ => []
 | _::_, [],_,_ => []
theorem earlyB_zero (e:Nat) (es:List Nat):earlyB (e::es) 0 = !(e == 0):=rfl
theorem earlyB_succ (e:Nat) (es:List Nat) (k:Nat):earlyB (e::es) (k+1)=earlyB es k:=rfl
theorem fillC_eq {u:Nat→Value}:∀ (es:List Nat) (ops:List Oper) (sp:List Sp) (j:Nat) (a:Act) (l:Nat→Bool),(∀ k,l (j+k)=earlyB es k)→fillL l ops sp u j a=fillC es ops sp u j a
 | [],ops,sp,j,a,l,h=>by
  rw [fill_congr (l:=l) (l':=λ _=>false) (u:=u) (u':=u) ops sp j a (λ k hk=>by
   have:=h (k-j)
   rw [show j+(k-j)=k by omega] at this
   exact this) (λ _ _=>rfl),fill_none ops sp j a (λ _=>rfl)]
  unfold fillC;rfl
 | e::es, [],sp,j,a,l,h=>by simp [fillL,fillC]
 | e::es,o::ops, [],j,a,l,h=>by simp [fillL,fillC]
 | e::es,o::ops,s::sp,j,a,l,h=>by
  simp only [fillL,fillC]
  have h0:=h 0
  rw [Nat.add_zero,earlyB_zero] at h0
  rw [fillC_eq es ops sp (j+1) _ l (λ k=>by
   have:=h (k+1)
   rw [earlyB_succ] at this
   rwa [show j+1+k=j+(k+1) by omega]),h0]
  cases e == 0 <;> simp
theorem ownsC_eq {u:Nat→Value}:∀ (es:List Nat) (sp:List Sp) (j:Nat) (l:Nat→Bool),(∀ k,l (j+k)=earlyB es k)→ownsL l sp u j=ownsC es sp u j
 | [],sp,j,l,h=>by
  rw [owns_congr (l:=l) (l':=λ _=>false) (u:=u) (u':=u) sp j (λ k hk=>by
   have:=h (k-j)
   rw [show j+(k-j)=k by omega] at this
   exact this) (λ _ _=>rfl),owns_none sp j (λ _=>rfl)]
  unfold ownsC;rfl
 | e::es, [],j,l,h=>by simp [ownsL,ownsC]
 | e::es,s::sp,j,l,h=>by
  simp only [ownsL,ownsC]
  have h0:=h 0
  rw [Nat.add_zero,earlyB_zero] at h0
  rw [ownsC_eq es sp (j+1) l (λ k=>by
   have:=h (k+1)
   rw [earlyB_succ] at this
   rwa [show j+1+k=j+(k+1) by omega]),h0]
  cases e == 0 <;> simp
end Go.Proofs.Ytlklleaocbnbcaa
namespace Go.Proofs.Ytlklleaocbnbcaa
open Go.RowKit
set_option linter.unusedVariables false
theorem held_take {P:Program} {md:Region.Mode} {ops:Array Oper} {Q:Exit→Act→World→Prop} {S:World→Prop} {i:Nat} {oi:Oper} {v:Value} {fuel:Nat} {listed:Array Bool} {a:Act} {w:World} (hi:ops.toList[i]? = some oi)
  (hs:Region.noSelect ops=true) (hf:Region.free md ops listed i=true) (hr:(Region.ready md ops listed).contains i=true)
  (hQ:∀ c a w,Q (.panic c) (a.put oi.dst v) w→Q (.panic c) a w) (hy:YieldsIf P ops S oi v a) (hS:S w)
  (h:wpAnyH P md ops Q S fuel (listed.setIfInBounds i true) (a.put oi.dst v) w):wpAnyH P md ops Q S (fuel+1) listed a w :=
 wpAnyH_take (by simpa using hi) hs hf hr hQ hy hS h
theorem held_cons {P:Program} {md:Region.Mode} {ops:Array Oper} {Q:Exit→Act→World→Prop} {S:World→Prop} {fuel:Nat} {listed:Array Bool} {a:Act} {w:World} {i:Nat} {o:Oper} {rs:List Nat} (ho:ops.toList[i]? = some o)
  (h:∀ K':Act→World→Prop,Shut (∀ a w,S w→(S w→wpAnyH P md ops Q S fuel (listed.setIfInBounds i true) a w)→K' a w)→if Region.wanted o (yielded ops a.tmps)=true then Oper.wp P o a w K' Q else K' (a.put o.dst undef) w)
  (hs:AllReadyH P md ops Q S fuel listed a w rs):AllReadyH P md ops Q S fuel listed a w (i::rs) :=
 AllReadyH.cons (by simpa using ho) h hs
inductive Way (R:Nat→Nat→Bool) (n:Nat):Nat→Nat→Prop
 | one {a b} (hb:b<n) (h:R a b=true):Way R n a b
 | more {a b c} (hb:b<n) (h:R a b=true) (k:Way R n b c):Way R n a c
def unseen (l:List Bool):Nat:=l.countP (· = false)
structure Closed (R:Nat→Nat→Bool) (n m src dst:Nat) (seen s':List Bool):Prop where
 len:s'.length=n
 sub:∀ y,seen.getD y false=true→s'.getD y false=true
 own:∀ y,n-m≤y→y<n→R src y=true→s'.getD y false=true
 new:∀ x,s'.getD x false=true→seen.getD x false=false→∀ y,y<n→R x y=true→s'.getD y false=true
 dst:s'.getD dst false=seen.getD dst false
 cnt:unseen s'≤unseen seen
structure Ordered (R:Nat→Nat→Bool) (clk:Nat→Bool) (n:Nat) (done:List Bool) (out:List Nat):Prop where
 len:done.length=n
 mem:∀ i,i∈out↔i<n∧done.getD i false=true
 clk:∀ i,i∈out→clk i=false
 nodup:out.Nodup
 pre:∀ (p:Nat) (i:Nat),out[p]? = some i→∀ k,k<n→R k i=true→∃ q,q<p∧out[q]? = some k
end Go.Proofs.Ytlklleaocbnbcaa
