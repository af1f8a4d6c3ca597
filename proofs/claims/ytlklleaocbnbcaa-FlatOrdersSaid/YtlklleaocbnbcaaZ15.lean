import Derived.Test.YtlklleaocbnbcaaZ14
import Derived.WalkKit
import Derived.Below
import Derived.Lib.Hide
import Derived.Deep.QuietTactic
import Derived.BigQuiet
import Derived.Deep.AppendLies
import Derived.Deep.DeepMust
import Derived.ProofKit
import Derived.Deep.Slices
import Derived.OwnWalk
import Derived.SizedLaws
import Derived.OpenShut
import Derived.Lib.SmallJoins
import Derived.Laws.CopyOwn
import Derived.Lib.SliceRun
import Derived.Test.YtlklleaocbnbcaaRows
import Derived.StillTailTactics
import Derived.Deep.RegionHeld3
import Derived.IntWalk
import Derived.Laws.Externs
import Derived.Shelf.Bits.Mul64
namespace Go.Proofs.Ytlklleaocbnbcaa
set_option linter.unusedVariables false
open Go.RowKit Go.Sort
theorem step_app {P:Program} {w:World} {ops:Array Oper} {o:Oper} {a:Act} {K:Act→World→Prop} {Q:Exit→Act→World→Prop} {E:Prop} (hgd:o.guard=none) (s x:Operand) (t:TypeId)
  (ho:o.op = .call { callee := .builtin .append,args := #[s,x],argTypes := #[t,t]})
  {e size bytes:Nat} {z:Value} (T:SlTy P t e size bytes z) (base:Nat)
  (v:Value) (n:Nat) (xs:List Value) (hs:a.eval s=v) (hown:w.ownsRow base e size v n xs)
  (b m c:Nat) (news:List Value) (hx:a.eval x = .slice (some ⟨b,0,none⟩) m c) (cs:Array Value) (hb:w.heap[b]? = some (.cells cs e (0,0))) (hcs:cs.toList=news) (hl:news.length=m*size) (h1:∀ u∈news,u.oneCell'=true)
  (hm:0<m) (hbytes:(n+m)*bytes≤140737488355328) (h63:n+m≤140737488355328) (hbase:base≤w.heap.size)
  (h:∀ g cap w',App base e size w v n m (xs++news) g cap w'→K (a.put o.dst (.slice (some ⟨g,0,none⟩) (n+m) cap)) w'):if Region.wanted o (yielded ops a.tmps)=true then Oper.wp P o a w K Q else E:=by
 obtain ⟨i,hi,hz,hsz,hby⟩:=T.i
 exact step_append_lies w hgd s x t ho base e i z size bytes T.u hi hz hsz hby T.zs T.sz v n xs hs hown ⟨b,0,none⟩ m c news hx hl (seg_row hb hcs) h1 hm (by simp only [maxLen];omega) hbytes hbase _ rfl
  λ g cap w' h2 h3 h4 h5=>h g cap w' ⟨h2,h3,h4,h5⟩
theorem step_appR {P:Program} {w:World} {ops:Array Oper} {o:Oper} {a:Act} {K:Act→World→Prop} {Q:Exit→Act→World→Prop} {E:Prop} (hgd:o.guard=none) (s x:Operand) (t:TypeId)
  (ho:o.op = .call { callee := .builtin .append,args := #[s,x],argTypes := #[t,t]})
  {e size bytes:Nat} {z:Value} (T:SlTy P t e size bytes z) (base:Nat)
  (v:Value) (n:Nat) (xs:List Value) (hs:a.eval s=v) (hown:w.ownsRow base e size v n xs)
  (y:Value) (m:Nat) (news:List Value) (hx:a.eval x=y) (hy:RO w y size m news) (h1:∀ u∈news,u.oneCell'=true)
  (hbytes:(n+m)*bytes≤140737488355328) (h63:n+m≤140737488355328) (hbase:base≤w.heap.size)
  (h:∀ v' w',AppR base e size w v (n+m) (xs++news) v' w'→K (a.put o.dst v') w'):if Region.wanted o (yielded ops a.tmps)=true then Oper.wp P o a w K Q else E:=by
 have hw:Region.wanted o (yielded ops a.tmps)=true:=by simp [Region.wanted,hgd]
 rw [if_pos hw]
 obtain ⟨i,hi,hz,hsz,hby⟩:=T.i
 have hml:n+m≤maxLen:=by simp only [maxLen];omega
 obtain ⟨hl,p,c,rfl,hcell⟩:=hy
 have hrun:∃ v' w',(Builtin.append_ #[t,t] o.type #[v,.slice p m c]).run P w = .ok v' w'∧AppR base e size w v (n+m) (xs++news) v' w':=by
  cases p with
  | none =>
   have hnil:news = []:=by
    cases news with
    | nil=>rfl
    | cons u r=>obtain ⟨b,o',hb,_⟩:=hcell 0 u rfl;cases hb
   subst hnil
   have hm:m=0:=by
    have h0:=T.sz
    have h1:m*size=0:=by simpa using hl.symm
    rcases Nat.mul_eq_zero.1 h1 with h2 | h2
    ·exact h2
    ·omega
   subst hm
   obtain ⟨p',c',rfl,hle⟩:=ownsRow_le hown
   exact ⟨_,w,run_append_nothing t o.type e size T.u hi p' n c' c hle,by simpa using hown,⟨rfl,rfl,rfl,Nat.le_refl _,λ _ _ _=>rfl⟩,.inl rfl⟩
  | some ad =>
   have hc:∀ j u,news[j]? = some u→w.cell? (ad.add j)=some u:=by
    intro j u hu
    obtain ⟨b,o',hb,hc⟩:=hcell j u hu
    obtain rfl:ad=⟨b,o',none⟩:=by simpa using hb
    have hadd:(⟨b,o',none⟩:Addr).add j=⟨b,o'+j,none⟩:=by unfold Addr.add;split <;> simp_all
    rw [hadd];exact hc
   obtain ⟨v',w',hr,h2,h3,_,h5⟩:=run_append_own_at (P:=P) w base t o.type e i z size bytes T.u hi hz hsz hby T.zs T.sz v n xs hown ad m c news hl hc h1 hml hbytes hbase
   exact ⟨v',w',hr,h2,h3,h5⟩
 obtain ⟨v',w',hr,hA⟩:=hrun
 unfold Oper.wp execOp
 simp only [ho,resolve,invoke,builtin,Sem.run_bind,Sem.run_pure,Result.andThen_ok,List.map_toArray,List.map_cons,List.map_nil,hs,hx,hr]
 exact h _ _ hA
def updV (V:DK→Value) (k:DK) (v:Value):DK→Value:=λ k'=>if k'=k then v else V k'
theorem updV_twice (V:DK→Value) (k:DK) (v v':Value):updV (updV V k v) k v'=updV V k v':=by
 funext k'
 unfold updV
 split <;> rfl
theorem updZ_V (S S':DS) (V:DK→Value) (k:DK) (r:RowV) (h1:DRof S' (updV V k r.1) k=r) (h2:∀ k',k'≠k→(DRof S' (updV V k r.1) k').2=(DRof S V k').2):updZ (DRof S V) k r=DRof S' (updV V k r.1):=by
 funext k'
 by_cases hk:k'=k
 ·subst hk;rw [updZ_same,h1]
 ·rw [updZ_other _ _ hk]
  refine Prod.ext ?_ (h2 k' hk).symm
  cases k' <;> simp [DRof,updV,hk]
theorem MD.box {bm n:Nat} {w W W':World} {R S bs ts rs} (h:MD bm n w W R S bs ts rs) (hm:Mk bm W') (hu:Upd (One bm) (One bm) W W') {b t:Nat} {l:List Value} (hb:Blk W' b t l) (hg:W.heap.size≤b):MD bm n w W' R S ((b,t,l)::bs) ts rs:=by
 have h':=h.call hm hu
 have hA:∀ k,Av bm w R bs k→k<W.heap.size→Av bm w R ((b,t,l)::bs) k∧W'.heap[k]? = W.heap[k]? := λ k hk hlt=>by
  refine ⟨⟨hk.1,hk.2.1,λ x hx => ?_,hk.2.2.2⟩,hu.block k hlt hk.2.1⟩
  rcases List.mem_cons.1 hx with rfl | hx
  ·show b≠k;omega
  ·exact hk.2.2.1 x hx
 refine ⟨h'.eqb,h'.maker,h'.bel,h'.mem,λ x hx => ?_,?_,λ x hx=>⟨(h.tr x hx).1.turn ER.stay hA,(h.tr x hx).2⟩,λ x hx=>(h.rr x hx).turn hA,h.pg.turn ER.stay hA,h.sr.turn ER.stay hA,h.st.turn hA⟩
 ·rcases List.mem_cons.1 hx with rfl | hx
  ·exact ⟨hb,Nat.le_trans h.bel.size hg,λ e=>by have:=h.maker.lt;have e':b=bm:=e;omega,λ k e=>by have:=(h.lts k _ e).2;have hg':W.heap.size≤b:=hg;exact absurd this (Nat.not_lt.2 hg')⟩
  ·exact h'.blk x hx
 ·rw [List.map_cons,List.nodup_cons]
  refine ⟨λ hm => ?_,h.nd⟩
  obtain ⟨p,hp,e⟩:=List.mem_map.1 hm
  have:=(h.blk p hp).1.lt
  dsimp only at e;omega
theorem App.toR {base e size:Nat} {w w':World} {v:Value} {n m:Nat} {all:List Value} {g cap:Nat} (h:App base e size w v n m all g cap w'):AppR base e size w v (n+m) all (.slice (some ⟨g,0,none⟩) (n+m) cap) w' :=
 ⟨h.own,h.grown,h.at_.imp (λ e=>e.symm) (λ e=>by rw [e];rfl)⟩
section
variable {bm n:Nat} {w W W':World} {R:DK→RowV} {S:DS} {bs:Bx} {ts:List (TL × List Value)} {rs:List (Value × Nat × Nat × List Value)}
theorem MD.appR (h:MD bm n w W R S bs ts rs) (k:DK) {N:Nat} {v':Value} {xs:List Value} (ha:AppR w.heap.size (dkt k) (dks k) W (R k).1 N xs v' W'):MD bm n w W' (updZ R k (v',N,xs)) S bs ts rs:=by
 have hlt:=h.lts k
 have hold:∀ q,q<W.heap.size→(R k).1.ownBlock≠some q→W'.heap[q]? = W.heap[q]? := λ q hq hn=>ha.grown.block q hq (Ne.symm hn)
 have hA:∀ b,Av bm w R bs b→b<W.heap.size→Av bm w (updZ R k (v',N,xs)) bs b∧W'.heap[b]? = W.heap[b]? := λ b hb hl=>by
  refine ⟨⟨hb.1,hb.2.1,hb.2.2.1,λ k' e => ?_⟩,hold b hl (hb.2.2.2 k)⟩
  by_cases hk:k'=k
  ·subst hk
   rw [updZ_same] at e
   rcases ha.at_ with e2 | e2
   ·exact hb.2.2.2 _ (e2 ▸ e)
   ·have e3:=Option.some.inj (e2.symm.trans e);omega
  ·rw [updZ_other R _ hk] at e
   exact hb.2.2.2 k' e
 refine ⟨h.eqb,?_,?_,h.mem.app k ha,λ x hx => ?_,h.nd,λ x hx=>⟨(h.tr x hx).1.turn ER.stay hA,(h.tr x hx).2⟩,λ x hx=>(h.rr x hx).turn hA,h.pg.turn ER.stay hA,h.sr.turn ER.stay hA,h.st.turn hA⟩
 ·obtain ⟨p,m',c,l',i',h1,h2,h3⟩:=h.maker.ex
  have hne:∀ q,q≤bm→q<W.heap.size→W'.heap[q]? = W.heap[q]? := λ q hq hl=>hold q hl λ e=>by
   have h1:=(hlt q e).1
   have h2:=h.eqb
   have e':q=bm:=by omega
   exact h.mem.nb k (by rw [e,e'])
  refine ⟨p,m',c,l',i',?_,h2.turn λ q hq hl=>⟨hq,hne q (Nat.le_of_lt hq) hl⟩,h3⟩
  unfold Blk at h1 ⊢
  rw [hne bm (Nat.le_refl _) (some_lt h1)];exact h1
 ·exact ha.below h.bel h.bel.size λ q hq=>(hlt q hq).1
 ·obtain ⟨h1,h2,h3,h4⟩:=h.blk x hx
  refine ⟨?_,h2,h3,λ k' e => ?_⟩
  ·unfold Blk at h1 ⊢
   rw [hold _ (some_lt h1) (h4 k)];exact h1
  ·by_cases hk:k'=k
   ·subst hk
    rw [updZ_same] at e
    rcases ha.at_ with e2 | e2
    ·exact h4 _ (e2 ▸ e)
    ·have e3:=Option.some.inj (e2.symm.trans e);have:=h1.lt;omega
   ·rw [updZ_other R _ hk] at e
    exact h4 k' e
theorem MD.bodyApp {V:DK→Value} (h:MD bm n w W (DRof S V) S bs ts rs) {t:SL} {nc:List Value} {v':Value} {m:Nat} (hm:t.len=m) (ha:AppR w.heap.size 81 16 W (V .body) (S.body.len+m) (S.bc++nc) v' W') (ht:SR (Av bm w (DRof S V) bs) W t nc) :
  MD bm n w W' (DRof { S with body:=S.body.app t,bc:=S.bc++nc} (updV V .body v')) { S with body:=S.body.app t,bc:=S.bc++nc} bs ts rs:=by
 have h2:=(h.body ht).appR .body ha
 rw [updZ_V S { S with body:=S.body.app t,bc:=S.bc++nc} V .body (v',S.body.len+m,S.bc++nc) (by rw [←hm,←SL.app_len];rfl) (λ k' hk'=>by cases k' <;> first | exact absurd rfl hk' | rfl)] at h2
 exact h2
theorem MD.bodySet {V:DK→Value} (h:MD bm n w W (DRof S V) S bs ts rs) (hm:Mk bm W') (hu:Upd (One bm) (One bm) W W') {t:SL} {v:Value} {cs:List Value} (hr:W'.ownsRow W.heap.size 81 16 v t.len cs) (hs:SR (λ b=>W.heap.size≤b∧v.ownBlock≠some b) W' t cs) :
  MD bm n w W' (DRof { S with body:=t,bc:=cs} (updV V .body v)) { S with body:=t,bc:=cs} bs ts rs:=by
 have h2:=h.bodyIs hm hu hr hs
 rw [updZ_V S { S with body:=t,bc:=cs} V .body (v,t.len,cs) rfl (λ k' hk'=>by cases k' <;> first | exact absurd rfl hk' | rfl)] at h2
 exact h2
theorem MD.moveP {V:DK→Value} (h:MD bm n w W (DRof S V) S bs ts rs) (kind p1 p2 p3:Nat) {g cap:Nat}
  (happ:App w.heap.size 72 5 (W.alloc (.cells [.int .i64 kind,.int .i64 p1,.int .i64 p2,.int .i64 p3,V .body].toArray 72)) (V .procs) S.ps.length 1 (S.pc ++ [.int .i64 kind,.int .i64 p1,.int .i64 p2,.int .i64 p3,V .body]) g cap W') :
  MD bm n w W' (DRof { S with ps:=S.ps ++ [⟨kind,p1,p2,p3,S.body⟩],pc:=S.pc ++ [.int .i64 kind,.int .i64 p1,.int .i64 p2,.int .i64 p3,V .body],body := .nil,bc := []} (updV (updV V .body (.slice none 0 0)) .procs (.slice (some ⟨g,0,none⟩) (S.ps.length+1) cap))) { S with ps:=S.ps ++ [⟨kind,p1,p2,p3,S.body⟩],pc:=S.pc ++ [.int .i64 kind,.int .i64 p1,.int .i64 p2,.int .i64 p3,V .body],body := .nil,bc := []} ((W.heap.size,72, [.int .i64 kind,.int .i64 p1,.int .i64 p2,.int .i64 p3,V .body])::bs) ts rs:=by
 have h1:=((h.move kind p1 p2 p3 rfl).lay 72 [.int .i64 kind,.int .i64 p1,.int .i64 p2,.int .i64 p3,V .body]).app .procs happ
 rw [show updZ (updZ (DRof S V) .body (.slice none 0 0,0, [])) .procs (.slice (some ⟨g,0,none⟩) (S.ps.length+1) cap,S.ps.length+1,S.pc ++ [.int .i64 kind,.int .i64 p1,.int .i64 p2,.int .i64 p3,V .body])=DRof { S with ps:=S.ps ++ [⟨kind,p1,p2,p3,S.body⟩],pc:=S.pc ++ [.int .i64 kind,.int .i64 p1,.int .i64 p2,.int .i64 p3,V .body],body := .nil,bc := []} (updV (updV V .body (.slice none 0 0)) .procs (.slice (some ⟨g,0,none⟩) (S.ps.length+1) cap)) from by
  funext k
  cases k
  all_goals first | rfl | (simp only [updZ,DRof,updV,List.length_append,List.length_singleton];rfl)] at h1
 exact h1
theorem MD.noBody {V:DK→Value} (h:MD bm n w W (DRof S V) S bs ts rs):MD bm n w W (DRof { S with body := .nil,bc := []} (updV V .body (.slice none 0 0))) { S with body := .nil,bc := []} bs ts rs:=by
 have h2:=h.nobody
 rw [updZ_V S { S with body := .nil,bc := []} V .body (.slice none 0 0,0, []) rfl (λ k' hk'=>by cases k' <;> first | exact absurd rfl hk' | rfl)] at h2
 exact h2
theorem MD.sgs {V:DK→Value} (h:MD bm n w W (DRof S V) S bs ts rs) {v:Value} {N:Nat} (e:V .sigs=v) (hl:S.l.length=N):ROA (λ b=>b≠bm) W v 4 N (sigCells S.l):=by
 subst e hl
 exact h.row .sigs
theorem MD.sgsB {V:DK→Value} (h:MD bm n w W (DRof S V) S bs ts rs) {v:Value} {N:Nat} (e:V .sigs=v) (hl:S.l.length=N):ROA (λ b=>b<W.heap.size) W v 4 N (sigCells S.l):=by
 subst e hl
 exact h.rowB .sigs
theorem MD.ne (h:MD bm n w W R S bs ts rs) (j:Nat) {b t:Nat} {l:List Value} (hj:bs[j]? = some (b,t,l)):¬One bm b:=λ e=>(h.blk _ (List.mem_of_getElem? hj)).2.2.1 e
end
theorem ne_of_ro {bm:Nat} {w:World} {b o n c size m:Nat} {cs:List Value} (h:ROA (λ b=>b≠bm) w (.slice (some ⟨b,o,none⟩) n c) size m cs) {j:Nat} {u:Value} (hu:cs[j]? = some u):¬One bm b:=by
 obtain ⟨_,p',c',e1,_,h3⟩:=h
 obtain ⟨b',o',e2,hA,_⟩:=h3 j u hu
 rw [e2] at e1
 cases e1
 exact hA
theorem mono_blkL {bm t g:Nat} {tab:List Value}:(Sp.rel (λ v W=>∃ L,v = .slice (some ⟨L,0,none⟩) 1 1∧Blk W L t tab∧bm<L∧g≤L) (λ _ => [])).MonoM bm:=λ _ _ _ hb ⟨L,h1,h2,h3,h4⟩=>⟨L,h1,hb.1.blk h2 (λ e=>by have e':L=bm:=e;omega),h3,h4⟩
def SpSt (w0:World) (n:Nat) (v:Value) (W:World):Prop :=
 ∃ (t:SL) (p:Option Addr) (c:Nat) (cs:List Value),v = .slice p t.len c∧W.ownsRow w0.heap.size 81 16 (.slice p t.len c) t.len cs∧SR (λ b=>w0.heap.size≤b∧(Value.slice p t.len c).ownBlock≠some b) W t cs∧t.wf n∧t.len≤3
theorem mono_spst {bm n:Nat} {w0:World} (h:bm<w0.heap.size):(Sp.rel (SpSt w0 n) (λ _ => [])).MonoM bm:=λ _ w w' hb ⟨t,p,c,cs,h1,h2,h3,h4⟩=>by
 refine ⟨t,p,c,cs,h1,ownsRow_keep h2 λ k hk=>hb.1.block k (own_lt' h2 k hk).2 (λ e => ?_),h3.turn ER.stay λ b hb1 hb2=>⟨hb1,hb.1.block b hb2 (λ e => ?_)⟩,h4⟩
 ·have e':k=bm:=e
  have:=(own_lt' h2 k hk).1
  omega
 ·have e':b=bm:=e
  have:=hb1.1
  omega
theorem spst_of {bm n:Nat} {w0 w w':World} {e:Ending} (hs:w0.heap.size≤w.heap.size) (h:StR bm n w e w'):∃ v,e = .returned v∧Mk bm w'∧Upd (One bm) (One bm) w w'∧SpSt w0 n v w':=by
 obtain ⟨t,p,c,cs,h1,h2,h3,h4,h5,h6,h7⟩:=h
 refine ⟨_,h1,h6,h7,t,p,c,cs,rfl,⟨h2.1,h2.2.imp id ?_⟩,h3.mono λ b hb=>⟨Nat.le_trans hs hb.1,hb.2⟩,h4,h5⟩
 rintro ⟨g,cap,cur,e1,e2,e3⟩
 exact ⟨g,cap,cur,e1,Nat.le_trans hs e2,e3⟩
theorem ROA.one {A:Nat→Prop} {w:World} {v:Value} {size n:Nat} {cs:List Value} (h:ROA A w v size n cs):v.oneCell'=true:=by
 obtain ⟨p,c,rfl,_⟩:=h.form
 rfl
theorem tr_cells_one {A:Nat→Prop} {w:World}:∀ {t:TL} {cs:List Value},TR A w t cs→∀ u∈cs,u.oneCell'=true
 | .nil,_,h=>by have:_ = []:=h;subst this;intro u hu;cases hu
 | .cons h a r,_,⟨hc,av,ac,cs',e,hl,hh,hr,ha,hrr⟩=>by
  obtain ⟨op,sg,val,vl,rfl,hv,_⟩:=hh
  intro u hu
  rw [e] at hu
  rcases List.mem_append.1 hu with hu | hu
  ·simp only [tcells,List.mem_cons,List.not_mem_nil,or_false] at hu
   rcases hu with rfl | rfl | rfl | rfl | rfl | rfl | rfl | rfl
   all_goals first | rfl | exact hv.one | exact hr.one
  ·exact tr_cells_one hrr u hu
theorem sr_cells_one {A:Nat→Prop} {w:World}:∀ {t:SL} {cs:List Value},SR A w t cs→∀ u∈cs,u.oneCell'=true
 | .nil,_,h=>by have:_ = []:=h;subst this;intro u hu;cases hu
 | .cons h b e r,_,⟨idxv,ic,vc,bv,bc,ev,ec,cs',h1,h2,h3,h4,h5,h6,h7,h8,h9⟩=>by
  intro u hu
  rw [h1] at hu
  rcases List.mem_append.1 hu with hu | hu
  ·simp only [scells,List.replicate_zero,List.nil_append,List.mem_cons,List.mem_append,List.not_mem_nil,or_false] at hu
   rcases hu with rfl | rfl | rfl | rfl | rfl | hu | rfl | rfl | rfl
   all_goals first | rfl | exact h3.one | exact h5.one | exact h7.one | exact tr_cells_one h2 u hu
  ·exact sr_cells_one h9 u hu
def TreeP (w0:World) (n:Nat) (W:World) (H:TH) (a:TL) (o:Int) (g:Bool) (vp:Option Addr) (vn vc:Nat) (ap:Option Addr) (an ac:Nat):Prop :=
 TR (From w0.heap.size) W (.cons H a .nil) (tcells H o g (.slice vp vn vc) (.slice ap an ac))∧(TL.cons H a .nil).wf n
theorem TreeP.mono {bm n:Nat} {w0 W W':World} {H:TH} {a:TL} {o:Int} {g:Bool} {vp:Option Addr} {vn vc:Nat} {ap:Option Addr} {an ac:Nat} (h:TreeP w0 n W H a o g vp vn vc ap an ac) (hlt:bm<w0.heap.size) (hb:BM bm W W'):TreeP w0 n W' H a o g vp vn vc ap an ac :=
 ⟨h.1.turn ER.stay λ b h1 h2=>⟨h1,hb.1.block b h2 (λ e=>by have e':b=bm:=e;have h1':w0.heap.size≤b:=h1;omega)⟩,h.2⟩
theorem roa_bm {bm size n:Nat} {w0 W W':World} {v:Value} {cs:List Value} (h:ROA (From w0.heap.size) W v size n cs) (hlt:bm<w0.heap.size) (hb:BM bm W W'):ROA (From w0.heap.size) W' v size n cs :=
 h.turn λ b h1 h2=>⟨h1,hb.1.block b h2 (λ e=>by have e':b=bm:=e;have h1':w0.heap.size≤b:=h1;omega)⟩
theorem Sgs.take {l:List Sg} (h:Sgs l) {m:Nat} (h1:1≤m) (hm:m≤l.length):Sgs (l.take m):=by
 have:=h.pos
 have hl:(l.take m).length=m:=by rw [List.length_take];omega
 refine ⟨by omega,by rw [hl];have:=h.le;omega,λ x hx=>h.w x (List.mem_of_mem_take hx),λ x hx=>h.hd x ?_⟩
 rw [List.getElem?_take] at hx
 split at hx
 ·exact hx
 ·cases hx
end Go.Proofs.Ytlklleaocbnbcaa
namespace Go.Proofs.Ytlklleaocbnbcaa.L
set_option linter.unusedVariables false
open Go.RowKit Go.Deep Go.ChangeShapes Go.WideShapes
structure Upd (F F':Nat→Prop) (w w':World):Prop where
 os:w'.os=w.os
 tape:w'.tape=w.tape
 output:w'.output=w.output
 size:w.heap.size≤w'.heap.size
 block:∀ k,k<w.heap.size→¬F k→w'.heap[k]? = w.heap[k]?
 sub:∀ k,F' k→F k∨w.heap.size≤k
theorem Upd.refl (F:Nat→Prop) (w:World):Upd F F w w:=⟨rfl,rfl,rfl,Nat.le_refl _,λ _ _ _=>rfl,λ _ h => .inl h⟩
theorem Upd.trans {F F' F'' : Nat → Prop} {w w' w'' : World} (h : Upd F F' w w') (k : Upd F' F'' w' w'') : Upd F F'' w w'' :=
  ⟨k.os.trans h.os, k.tape.trans h.tape, k.output.trans h.output, Nat.le_trans h.size k.size,
   fun i hi hn => (k.block i (Nat.lt_of_lt_of_le hi h.size) (fun h' => by rcases h.sub i h' with h' | h'; exact hn h'; omega)).trans (h.block i hi hn),
   fun i hi => by rcases k.sub i hi with h' | h'; exact h.sub i h'; exact .inr (Nat.le_trans h.size h')⟩
theorem Upd.below {F:Nat→Prop} {w w':World} (h:Below w.heap.size w w'):Upd F F w w' :=
 ⟨h.os,h.tape,h.output,h.size,λ k hk _=>h.block k hk,λ _ h => .inl h⟩
theorem Upd.cell {F F':Nat→Prop} {w w':World} (h:Upd F F' w w') {a:Addr} {v:Value} (hc:w.cell? a=some v) (hn:¬F a.block):w'.cell? a=some v:=by
 rw [World.cell?_of_block (h.block _ (World.block_lt_of_cell? _ _ hc) hn)];exact hc
theorem some_lt {w:World} {k:Nat} {o:Obj} (h:w.heap[k]? = some o):k<w.heap.size:=by
 rcases Nat.lt_or_ge k w.heap.size with h' | h'
 ·exact h'
 ·rw [Array.getElem?_eq_none h'] at h;cases h
def RO (w:World) (v:Value) (size n:Nat) (cs:List Value):Prop :=
 cs.length=n*size∧∃ p c,v = .slice p n c∧(∀ j u,cs[j]? = some u→∃ b o,p=some ⟨b,o,none⟩∧w.cell? ⟨b,o+j,none⟩=some u)
theorem RO.below {w w':World} {v size n cs} (h:RO w v size n cs) (hb:Below w.heap.size w w'):RO w' v size n cs:=by
 obtain ⟨h1,p,c,h2,h3⟩:=h
 refine ⟨h1,p,c,h2,λ j u hu => ?_⟩
 obtain ⟨b,o,e,hc⟩:=h3 j u hu
 exact ⟨b,o,e,(hb.cell (World.block_lt_of_cell? _ _ hc)).trans hc⟩
theorem RO.get {w:World} {v size n cs} (h:RO w v size n cs) {j:Nat} {u:Value} (hu:cs[j]? = some u):∃ b o c,v = .slice (some ⟨b,o,none⟩) n c∧w.cell? ⟨b,o+j,none⟩=some u:=by
 obtain ⟨h1,p,c,rfl,h3⟩:=h
 obtain ⟨b,o,rfl,hc⟩:=h3 j u hu
 exact ⟨b,o,c,rfl,hc⟩
theorem RO.sl {w:World} {p n c size n' cs} (h:RO w (.slice p n c) size n' cs) {j:Nat} {u:Value} (hu:cs[j]? = some u):∃ b o,p=some ⟨b,o,none⟩:=by
 obtain ⟨b,o,c',e,_⟩:=h.get hu
 simp only [Value.slice.injEq] at e
 exact ⟨b,o,e.1⟩
theorem RO.cell {w:World} {b o n c size n' cs} (h:RO w (.slice (some ⟨b,o,none⟩) n c) size n' cs) {j:Nat} {u:Value} (hu:cs[j]? = some u):w.cell? ⟨b,o+j,none⟩=some u:=by
 obtain ⟨b',o',c',e,hc⟩:=h.get hu
 simp only [Value.slice.injEq,Option.some.injEq,Addr.mk.injEq,and_true] at e
 obtain ⟨⟨rfl,rfl⟩,_⟩:=e
 exact hc
theorem RO.form {w:World} {v size n cs} (h:RO w v size n cs):∃ p c,v = .slice p n c:=by
 obtain ⟨h1,p,c,rfl,h3⟩:=h;exact ⟨p,c,rfl⟩
def Blk (w:World) (b:Nat) (t:TypeId) (l:List Value):Prop:=w.heap[b]? = some (.cells l.toArray t (0,0))
theorem Blk.cell {w:World} {b t l} (h:Blk w b t l) {i:Nat} {u:Value} (hu:l[i]? = some u):w.cell? ⟨b,i,none⟩=some u:=by
 unfold Blk at h;simp [World.cell?,h,hu]
theorem Blk.frz {w:World} {b t l} (h:Blk w b t l) (i:Nat):w.frozen? ⟨b,i,none⟩=false:=by unfold Blk at h;simp [World.frozen?,h]
theorem Blk.lt {w:World} {b t l} (h:Blk w b t l):b<w.heap.size:=some_lt h
theorem Blk.set {w:World} {b t l} (h:Blk w b t l) (i:Nat) (u:Value):Blk (w.setCell ⟨b,i,none⟩ u) b t (l.set i u):=by
 unfold Blk at *;simp [World.setCell,Array.getElem?_modify,h]
theorem Blk.other {w:World} {b t l} (h:Blk w b t l) {a:Addr} (u:Value) (hn:b≠a.block):Blk (w.setCell a u) b t l:=by
 unfold Blk at *;rw [Below.heap_setCell _ _ _ _ hn];exact h
theorem Blk.below {w w':World} {b t l} (h:Blk w b t l) {B:Nat} (hb:Below B w w') (hB:b<B):Blk w' b t l:=by
 unfold Blk at *;rw [hb.block b hB];exact h
theorem Blk.alloc {w:World} {b t l} (h:Blk w b t l) (o:Obj):Blk (w.alloc o) b t l:=by
 have:=h.lt
 unfold Blk at *;rw [heap_alloc_old _ _ this];exact h
theorem Blk.new {w:World} (t:TypeId) (l:List Value):Blk (w.alloc (.cells l.toArray t)) w.heap.size t l:=heap_alloc_new w _
theorem Blk.own {w:World} {b t l} (h:Blk w b t l) {n size:Nat} (hl:l.length=n*size) (hm:n≤maxLen) (base:Nat) (hb:base≤b):w.ownsRow base t size (.slice (some ⟨b,0,none⟩) n n) n l :=
 ⟨hl,.inr ⟨b,n,_,rfl,hb,h,Nat.le_refl _,hm,by simpa using hl,by rw [←hl];simp⟩⟩
def bools (l:List Bool):List Value:=l.map .bool
theorem bools_at (l:List Bool) (i:Nat) (h:i<l.length):(bools l)[i]? = some (.bool (l.getD i false)):=by
 rw [bools,List.getElem?_map,List.getD,List.getElem?_eq_getElem h];rfl
structure SlTy (P:Program) (t e size bytes:Nat) (z:Value):Prop where
 u:P.underlying t=some (.slice e)
 i:∃ i,P.info? e=some i∧i.zero=some z∧i.size=size∧i.bytes=bytes
 zs:z.cells.size=size
 sz:0<size
theorem SlTy.of {P:Program} {t e size bytes:Nat} {z:Value} (u:P.underlying t=some (.slice e)) (h:(P.info? e).map (λ i=>(i.zero,i.size,i.bytes))=some (some z,size,bytes)) (zs:z.cells.size=size) (sz:0<size):SlTy P t e size bytes z :=
 ⟨u,by obtain ⟨i0,hi,hz0,hz1,hz2⟩:=info_parts h;exact ⟨i0,hi,hz0,hz1,hz2⟩,zs,sz⟩
structure App (base e size:Nat) (w:World) (v:Value) (n m:Nat) (all:List Value) (g cap:Nat) (w':World):Prop where
 own:w'.ownsRow base e size (.slice (some ⟨g,0,none⟩) (n+m) cap) (n+m) all
 grown:w.grownBy w' v.ownBlock
 at_:v.ownBlock=some g∨g=w.heap.size
 lt:g<w'.heap.size
theorem App.old {base e size w v n m all g cap w'} (h:App base e size w v n m all g cap w') {k:Nat} (hk:k<w.heap.size) (hn:v.ownBlock≠some k):w'.heap[k]? = w.heap[k]? :=
 h.grown.block k hk (Ne.symm hn)
theorem App.below {base e size w v n m all g cap w' B w0} (h:App base e size w v n m all g cap w') (hb:Below B w0 w) (hB:B≤w.heap.size) (hv:∀ k,v.ownBlock=some k→B≤k):Below B w0 w' :=
 hb.grown h.grown hB hv
structure AppR (base e size:Nat) (w:World) (v:Value) (n:Nat) (all:List Value) (v':Value) (w':World):Prop where
 own:w'.ownsRow base e size v' n all
 grown:w.grownBy w' v.ownBlock
 at_:v'.ownBlock=v.ownBlock∨v'.ownBlock=some w.heap.size
theorem AppR.below {base e size w v n all v' w' B w0} (h:AppR base e size w v n all v' w') (hb:Below B w0 w) (hB:B≤w.heap.size) (hv:∀ k,v.ownBlock=some k→B≤k):Below B w0 w' :=
 hb.grown h.grown hB hv
end Go.Proofs.Ytlklleaocbnbcaa.L
namespace Go.Proofs.Ytlklleaocbnbcaa.L
set_option linter.unusedVariables false
open Go.RowKit
def ofB (f:Nat→Bool):Nat→Nat
 | 0=>0
 | n+1=>ofB f n+(if f n then 2 ^ n else 0)
theorem ofB_lt (f:Nat→Bool):∀ n,ofB f n<2 ^ n
 | 0=>by simp [ofB]
 | n+1=>by
  have:=ofB_lt f n
  rw [ofB,Nat.pow_succ]
  split <;> omega
theorem testBit_ofB (f:Nat→Bool):∀ n j,(ofB f n).testBit j=(decide (j<n) && f j)
 | 0,j=>by simp [ofB]
 | n+1,j=>by
  have hlt:=ofB_lt f n
  have ih:=testBit_ofB f n j
  rw [ofB]
  by_cases hf:f n=true
  ·rw [if_pos hf,Nat.add_comm]
   rcases Nat.lt_trichotomy j n with h | h | h
   ·rw [Nat.testBit_two_pow_add_gt h,ih];simp [h,Nat.lt_succ_of_lt h]
   ·subst h
    rw [Nat.testBit_two_pow_add_eq,ih];simp [hf]
   ·have:2 ^ n+ofB f n<2 ^ j:=Nat.lt_of_lt_of_le (by rw [Nat.pow_succ] at *;omega:2 ^ n+ofB f n<2 ^ (n+1)) (Nat.pow_le_pow_right (by omega) h)
    rw [Nat.testBit_lt_two_pow this]
    have h1:¬j<n+1:=by omega
    simp [h1]
  ·rw [if_neg hf,Nat.add_zero,ih]
   have hf':f n=false:=by simpa using hf
   by_cases h:j<n
   ·simp [h,Nat.lt_succ_of_lt h]
   ·by_cases e:j=n
    ·subst e;simp [hf']
    ·have h1:¬j<n+1:=by omega
     simp [h,h1]
theorem eq_bits {x y:Nat} (h:∀ j,x.testBit j=y.testBit j):x=y:=Nat.eq_of_testBit_eq h
theorem bit_big {x n j:Nat} (h:x<2 ^ n) (hj:n≤j):x.testBit j=false:=Nat.testBit_lt_two_pow (Nat.lt_of_lt_of_le h (Nat.pow_le_pow_right (by omega) hj))
theorem lt_of_bits {x n:Nat} (h:∀ j,n≤j→x.testBit j=false):x<2 ^ n:=Nat.lt_pow_two_of_testBit x λ j hj=>h j hj
def valB (l:List Bool):Nat:=ofB (λ i=>l.getD i false) l.length
def word (x i:Nat):Nat:=x / 2 ^ (64*i) % 2 ^ 64
theorem word_lt (x i:Nat):word x i<2 ^ 64:=Nat.mod_lt _ (by decide)
theorem word_bit (x i j:Nat):(word x i).testBit j=(decide (j<64) && x.testBit (64*i+j)):=by
 rw [word,Nat.testBit_mod_two_pow,Nat.testBit_div_two_pow,Nat.add_comm]
theorem bit_word (x j:Nat):x.testBit j=(word x (j / 64)).testBit (j % 64):=by
 rw [word_bit]
 have:j % 64<64:=Nat.mod_lt _ (by decide)
 rw [show 64*(j / 64)+j % 64=j by omega];simp [this]
theorem words_ext {x y m:Nat} (hx:x<2 ^ (64*m)) (hy:y<2 ^ (64*m)) (h:∀ i,i<m→word x i=word y i):x=y:=by
 apply eq_bits;intro j
 by_cases hj:j<64*m
 ·rw [bit_word x,bit_word y,h (j / 64) (by omega)]
 ·rw [bit_big hx (by omega),bit_big hy (by omega)]
theorem word_zero (i:Nat):word 0 i=0:=by simp [word]
def setW (x k y:Nat):Nat:=x ^^^ ((word x k ^^^ y) <<< (64*k))
theorem setW_word (x k y j:Nat) (hy:y<2 ^ 64):word (setW x k y) j=if j=k then y else word x j:=by
 apply eq_bits;intro i
 rw [word_bit,setW,Nat.testBit_xor,Nat.testBit_shiftLeft]
 by_cases hi:i<64
 ·by_cases e:j=k
  ·subst e
   have h1:64*j+i-64*j=i:=by omega
   simp [hi,h1,Nat.testBit_xor,word_bit]
  ·rw [if_neg e,word_bit]
   rcases Nat.lt_or_ge j k with h | h
   ·have h1:¬64*k≤64*j+i:=by omega
    simp [hi,h1]
   ·have h2:64≤64*j+i-64*k:=by omega
    have h3:¬(64*j+i-64*k<64):=by omega
    simp [hi,Nat.testBit_xor,word_bit,h3,bit_big hy h2]
 ·have h0:(if j=k then y else word x j).testBit i=false:=by
   split
   ·exact bit_big hy (by omega)
   ·exact bit_big (word_lt x j) (by omega)
  rw [h0];simp [hi]
theorem setW_lt {x k y m:Nat} (hx:x<2 ^ (64*m)) (hk:k<m) (hy:y<2 ^ 64):setW x k y<2 ^ (64*m):=by
 apply lt_of_bits;intro j hj
 rw [bit_word,setW_word x k y _ hy,if_neg (by omega),←bit_word,bit_big hx hj]
def setB (x i:Nat) (b:Bool):Nat:=if b then x ||| 2 ^ i else x ^^^ (x &&& 2 ^ i)
theorem setB_bit (x i j:Nat) (b:Bool):(setB x i b).testBit j=if j=i then b else x.testBit j:=by
 unfold setB
 cases b
 ·simp only [Bool.false_eq_true,if_false,Nat.testBit_xor,Nat.testBit_and,Nat.testBit_two_pow]
  by_cases e:j=i
  ·subst e;simp
  ·have:¬i=j:=λ h=>e h.symm
   simp [e,this]
 ·simp only [if_true,Nat.testBit_or,Nat.testBit_two_pow]
  by_cases e:j=i
  ·subst e;simp
  ·have:¬i=j:=λ h=>e h.symm
   simp [e,this]
theorem setB_lt {x i n:Nat} (b:Bool) (hx:x<2 ^ n) (hi:i<n):setB x i b<2 ^ n:=by
 apply lt_of_bits;intro j hj
 rw [setB_bit,if_neg (by omega),bit_big hx hj]
theorem setB_word (x i k:Nat) (b:Bool):word (setB x i b) k=if k=i / 64 then setB (word x k) (i % 64) b else word x k:=by
 apply eq_bits;intro j
 rw [word_bit,setB_bit]
 by_cases hj:j<64
 ·by_cases e:k=i / 64
  ·rw [if_pos e,setB_bit,word_bit]
   by_cases e2:j=i % 64
   ·rw [if_pos (by omega),if_pos e2];simp [hj]
   ·rw [if_neg (by omega),if_neg e2]
  ·rw [if_neg e,word_bit,if_neg (by omega)]
 ·simp only [hj,decide_false,Bool.false_and]
  split
  ·rw [setB_bit,if_neg (by omega),word_bit];simp [hj]
  ·rw [word_bit];simp [hj]
theorem setB_or (x k:Nat):x ||| 2 ^ k=setB x k true:=by simp [setB]
theorem setB_andNot (x k:Nat) (hx:x<2 ^ 64) (hk:k<64):x &&& (18446744073709551615-2 ^ k)=setB x k false:=by
 apply eq_bits;intro j
 rw [setB_bit,Nat.testBit_and,show 18446744073709551615-2 ^ k=2 ^ 64-(2 ^ k+1) by omega,Nat.testBit_two_pow_sub_succ (Nat.pow_lt_pow_right (by decide) hk),Nat.testBit_two_pow]
 by_cases e:j=k
 ·subst e;simp
 ·have:¬k=j:=λ h=>e h.symm
  by_cases hj:j<64
  ·simp [e,this,hj]
  ·rw [bit_big hx (by omega)];simp [e]
end Go.Proofs.Ytlklleaocbnbcaa.L
namespace Go.Proofs.Ytlklleaocbnbcaa.L
set_option linter.unusedVariables false
end Go.Proofs.Ytlklleaocbnbcaa.L
namespace Go.Proofs.Ytlklleaocbnbcaa.L
set_option linter.unusedVariables false
end Go.Proofs.Ytlklleaocbnbcaa.L
namespace Go.Proofs.Ytlklleaocbnbcaa.L
set_option linter.unusedVariables false
end Go.Proofs.Ytlklleaocbnbcaa.L
namespace Go.Proofs.Ytlklleaocbnbcaa.L
set_option linter.unusedVariables false
open Go.RowKit
structure After (w:World) where
 val:World
 below:Below w.heap.size w val
instance (w:World):Nonempty (After w):=⟨⟨w,Below.refl _ _⟩⟩
theorem After.cell {w:World} {a:Addr} {v:Value} (h:w.cell? a=some v) (s:After w):s.val.cell? a=some v:=(s.below.cell (World.block_lt_of_cell? _ _ h)).trans h
theorem Blk.drew {w:World} {b t l} (h:Blk w b t l):Blk w.drew b t l:=h
theorem Below.next {a b c:World} (h:Below a.heap.size a b) (k:Below b.heap.size b c):Below a.heap.size a c:=h.trans (k.mono h.size)
theorem Below.new (w:World) (o:Obj):Below w.heap.size w (w.alloc o):=(Below.refl _ _).alloc (Nat.le_refl _) o
def wcount (n:Nat):Nat:=(n+63) / 64
def wordsV (m x:Nat):List Value:=(List.range m).map λ i => .int .u64 (word x i)
theorem wordsV_length (m x:Nat):(wordsV m x).length=m:=by simp [wordsV]
theorem wordsV_at {m x i:Nat} (h:i<m):(wordsV m x)[i]? = some (.int .u64 (word x i)):=by simp [wordsV,h]
theorem wordsV_set {m x i y:Nat} (hy:y<2 ^ 64):(wordsV m x).set i (.int .u64 y)=wordsV m (setW x i y):=by
 apply List.ext_getElem?
 intro j
 rw [List.getElem?_set]
 by_cases hj:j<m
 ·rw [wordsV_at hj,wordsV_at hj,setW_word x i y j hy,wordsV_length]
  by_cases e:i=j
  ·subst e;simp [hj]
  ·have:¬j=i:=λ h=>e h.symm
   simp [e,this]
 ·have h1:(wordsV m x)[j]? = none:=List.getElem?_eq_none (by rw [wordsV_length];omega)
  have h2:(wordsV m (setW x i y))[j]? = none:=List.getElem?_eq_none (by rw [wordsV_length];omega)
  rw [h1,h2,wordsV_length]
  split
  ·rw [if_neg (by omega)]
  ·rfl
structure VR (w:World) (v:Value) (n x:Nat):Prop where
 ex:∃ p c,v = .agg #[.int .i64 n,.slice p (wcount n) c]∧RO w (.slice p (wcount n) c) 1 (wcount n) (wordsV (wcount n) x)
 lt:x<2 ^ n
 le:n≤128
structure VO (w:World) (v:Value) (n x b:Nat):Prop where
 e:v = .agg #[.int .i64 n,.slice (some ⟨b,0,none⟩) (wcount n) (wcount n)]
 blk:Blk w b 93 (wordsV (wcount n) x)
 lt:x<2 ^ (64*wcount n)
 le:n≤128
theorem n_le_words (n:Nat):n≤64*wcount n:=by unfold wcount;omega
theorem VO.vr {w v n x b} (h:VO w v n x b) (hx:x<2 ^ n):VR w v n x:=by
 refine ⟨⟨_,_,h.e,by rw [wordsV_length,Nat.mul_one],_,_,rfl,λ j u hj=>⟨b,0,rfl,?_⟩⟩,hx,h.le⟩
 rw [Nat.zero_add];exact h.blk.cell hj
theorem VO.below {w w':World} {v n x b} (h:VO w v n x b) (hb:Below w.heap.size w w'):VO w' v n x b:=⟨h.e,h.blk.below hb h.blk.lt,h.lt,h.le⟩
theorem VO.set {w:World} {v n x b} (h:VO w v n x b) {i y:Nat} (hi:i<wcount n) (hy:y<2 ^ 64):VO (w.setCell ⟨b,i,none⟩ (.int .u64 y)) v n (setW x i y) b :=
 ⟨h.e,by have:=h.blk.set i (.int .u64 y);rwa [wordsV_set hy] at this,setW_lt h.lt hi hy,h.le⟩
theorem VO.congr {w:World} {v n x y b} (h:VO w v n x b) (hy:y<2 ^ (64*wcount n)) (he:∀ i,i<wcount n→word x i=word y i):VO w v n y b:=by
 obtain rfl:=words_ext h.lt hy he;exact h
theorem good_any (n:Int) (w:World):Calls Try.prog 60 #[.int .i64 n] w λ e w'=>e = .returned (.bool (decide (1≤n) && decide (n≤128)))∧w=w':=by
 by_cases h1:1≤n
 ·by_cases h2:n≤128
  ·have e:(decide (1≤n) && decide (n≤128))=true:=by simp [h1,h2]
   rw [e]
   clear e
   go_enter Try.func60,Try.ntmps60
   go_wp2_with fail
   go_ret
   exact ⟨by simp,rfl⟩
  ·have h2':128<n:=by omega
   have e:(decide (1≤n) && decide (n≤128))=false:=by simp [h2]
   rw [e]
   clear e h2
   go_enter Try.func60,Try.ntmps60
   go_wp2_with fail
   go_ret
   exact ⟨by simp;omega,rfl⟩
 ·have h2':n<1:=by omega
  have e:decide (1≤n)=false:=decide_eq_false h1
  rw [e,Bool.false_and]
  clear h1 e
  go_enter Try.func60,Try.ntmps60
  go_wp2_with fail
  go_ret
  exact ⟨rfl,rfl⟩
theorem count_any (n:Nat) (w:World) (hn:n≤1000000):Calls Try.prog 71 #[.int .i64 n] w λ e w'=>e = .returned (.int .i64 (wcount n))∧w=w':=by
 have h:(n:Int)≤1000000:=by omega
 have hw:Hid ((wcount n:Int)=((n:Int)+64-1) / 64):=Lib.hid (by unfold wcount;omega)
 clear hn
 go_enter Try.func71,Try.ntmps71
 go_wp2_with fail
 go_ret
 exact ⟨by rw [hw.out];rfl,rfl⟩
end Go.Proofs.Ytlklleaocbnbcaa.L
namespace Go.Proofs.Ytlklleaocbnbcaa.L
set_option linter.unusedVariables false
open Go.RowKit
theorem pow_lt (k:Nat) (hk:k<64):(2 ^ k:Nat)<18446744073709551616:=Nat.pow_lt_pow_right (n:=64) (by decide) hk
theorem u64_pow (k:Nat) (hk:k<64):IntKind.u64.wrap (2 ^ k)=((2 ^ k:Nat):Int):=by
 rw [IntKind.wrap_u64]
 have h:=pow_lt k hk
 rw [show ((2:Int) ^ k)=((2 ^ k:Nat):Int) by simp]
 generalize 2 ^ k=y at *
 omega
theorem u64_clr (W k:Nat) (hW:W<2 ^ 64) (hk:k<64):bits .andNot .u64 (W:Int) (IntKind.u64.wrap (2 ^ k))=((setB W k false:Nat):Int):=by
 rw [u64_pow k hk,←setB_andNot W k hW hk];exact u64_andNot_nat W _ hW (pow_lt k hk)
theorem u64_put (W k:Nat) (hW:W<2 ^ 64) (hk:k<64):bits .or .u64 (W:Int) (IntKind.u64.wrap (2 ^ k))=((setB W k true:Nat):Int):=by
 rw [u64_pow k hk,←setB_or];exact u64_or_nat W _ hW (pow_lt k hk)
theorem VO.setBit {w:World} {v:Value} {n x b:Nat} (h:VO w v n x b) (i:Nat) (is:Bool) (hi:i<n):VO (w.setCell ⟨b,i / 64,none⟩ (.int .u64 ((setB (word x (i / 64)) (i % 64) is:Nat):Int))) v n (setB x i is) b:=by
 have hk:i / 64<wcount n:=by unfold wcount;omega
 have hy:setB (word x (i / 64)) (i % 64) is<2 ^ 64:=setB_lt is (word_lt _ _) (Nat.mod_lt _ (by decide))
 refine (h.set hk hy).congr (setB_lt is h.lt (by have:=n_le_words n;omega)) λ j _ => ?_
 rw [setW_word _ _ _ _ hy,setB_word]
 by_cases e:j=i / 64
 ·subst e;rfl
 ·rw [if_neg e,if_neg e]
theorem grown_set (w:World) (o:Obj) (b i:Nat) (u:Value) (hb:b<w.heap.size):w.grownBy ((w.alloc o).setCell ⟨b,i,none⟩ u).drew (some b):=by
 refine ⟨rfl,rfl,rfl,?_,λ k hk hne => ?_⟩
 ·show w.heap.size≤((w.alloc o).setCell _ _).heap.size
  simp
 ·show ((w.alloc o).setCell _ _).heap[k]? = _
  rw [Below.heap_setCell _ _ _ _ (λ e=>hne (by rw [e]))]
  exact heap_alloc_old _ _ hk
set_option maxRecDepth 100000 in
set_option maxHeartbeats 1000000 in
theorem set_any {w:World} {v:Value} {n x b:Nat} (h:VO w v n x b) (i:Nat) (is:Bool) (hi:i<n) :
  Calls Try.prog 62 #[v,.int .i64 i,.bool is] w λ e w'=>e = .returned (.tuple #[])∧VO w' v n (setB x i is) b∧w.grownBy w' (some b):=by
 have HV:=Lib.hid (λ o=>h.below (Below.new w o))
 obtain ⟨rfl,hb,hx,hn⟩:=h
 have hk:i / 64<wcount n:=by unfold wcount;omega
 have hlt:=hb.lt
 have hc:=(hb.alloc (.cells #[.int .i64 n,.slice (some ⟨b,0,none⟩) (wcount n) (wcount n)] 60)).cell (wordsV_at hk)
 have hf:=(hb.alloc (.cells #[.int .i64 n,.slice (some ⟨b,0,none⟩) (wcount n) (wcount n)] 60)).frz (i / 64)
 have hp0:=(Blk.new (w:=w) 60 [.int .i64 n,.slice (some ⟨b,0,none⟩) (wcount n) (wcount n)]).cell (i:=0) rfl
 have hp1:=(Blk.new (w:=w) 60 [.int .i64 n,.slice (some ⟨b,0,none⟩) (wcount n) (wcount n)]).cell (i:=1) rfl
 have hi':(i:Int)≤128:=by omega
 have q1:(0:Int)≤(i:Int) / 64:=by omega
 have q2:(i:Int) / 64<(wcount n:Int):=by omega
 have q3:((i:Int) / 64).toNat=i / 64:=by omega
 have q4:(0:Int)≤(i:Int) % 64:=by omega
 have q5:((i:Int) % 64).toNat=i % 64:=by omega
 have q6:(i:Int).tmod 64=(i:Int) % 64:=Int.tmod_eq_emod_of_nonneg (by omega)
 have q0:IntKind.i64.wrap ((i:Int) / 64)=(i:Int) / 64:=IntWalk.i64_in _ (by omega)
 go_enter Try.func62,Try.ntmps62
 have hu0:=Lib.hid (u64_clr (word x (i / 64)) (i % 64) (word_lt _ _) (Nat.mod_lt _ (by decide)))
 have hu1:=Lib.hid (u64_put (word x (i / 64)) (i % 64) (word_lt _ _) (Nat.mod_lt _ (by decide)))
 have HG:=Lib.hid (λ o y=>grown_set w o b (i / 64) y hlt)
 have HI:=Lib.hid hi
 clear hb hx hi hn hk
 cases is
 all_goals
  go_wp2_with fail
  have HV2:=Lib.hid ((HV.out (.cells #[.int .i64 n,.slice (some ⟨b,0,none⟩) (wcount n) (wcount n)] 60)).setBit i)
  have HG2:=Lib.hid (HG.out (.cells #[.int .i64 n,.slice (some ⟨b,0,none⟩) (wcount n) (wcount n)] 60))
  generalize w.alloc (.cells #[.int .i64 n,.slice (some ⟨b,0,none⟩) (wcount n) (wcount n)] 60)=W at *
  refine wp_region_still_tail 11 (by kernel_rfl) (by kernel_rfl) ?_
  simp only [List.take_succ_cons,List.take_zero,List.drop_succ_cons,List.drop_zero]
  change wpStill _ _ W.drew (λ a'=>wpList _ _ _ _ a' W.drew) _ _
  repeat still_step
  refine wpStill_nil ?_
  go_wp2_with fail
  first | rw [hu0.out] | rw [hu1.out]
  go_end0
  exact ⟨rfl,(HV2.out _ HI.out).below ((Below.refl _ _).drew),HG2.out _⟩
end Go.Proofs.Ytlklleaocbnbcaa.L
namespace Go.Proofs.Ytlklleaocbnbcaa.L
set_option linter.unusedVariables false
open Go.RowKit
theorem VO.other {w:World} {v n x b} (h:VO w v n x b) {a:Addr} (ha:b≠a.block) (u:Value):VO (w.setCell a u) v n x b:=⟨h.e,h.blk.other u ha,h.lt,h.le⟩
theorem below_grown {B:Nat} {a b c:World} {g:Nat} (h:Below B a b) (k:b.grownBy c (some g)) (hB:B≤b.heap.size) (hg:B≤g):Below B a c :=
 h.grown k hB λ i hi=>by
  simp only [Option.some.injEq] at hi
  omega
end Go.Proofs.Ytlklleaocbnbcaa.L
namespace Go.Proofs.Ytlklleaocbnbcaa.L
set_option linter.unusedVariables false
open Go.RowKit
theorem Try.info22:(Try.prog.info? 93).map (λ i=>(i.zero,i.size,i.bytes))=some (some (.int .u64 0),1,8):=by kernel_rfl
theorem wordsV_zero (m:Nat):wordsV m 0=List.replicate m (.int .u64 0):=by
 apply List.ext_getElem?
 intro i
 by_cases h:i<m
 ·rw [wordsV_at h,List.getElem?_replicate,if_pos h,word_zero];rfl
 ·rw [List.getElem?_eq_none (by rw [wordsV_length];omega),List.getElem?_eq_none (by simp;omega)]
set_option maxRecDepth 100000 in
theorem mk_words (n:Nat) (hn:n≤1000000) (w:World):(Instr.makeSlice 58 (.int .i64 n) (.int .i64 n)).run Try.prog w = .ok (.slice (some ⟨w.heap.size,0,none⟩) n n) (w.alloc (.cells (wordsV n 0).toArray 93)):=by
 obtain ⟨i0,hi,hz0,hz1,hz2⟩:=info_parts Try.info22
 have h:=run_make (P:=Try.prog) w 58 93 i0 _ Try.underlying58 hi hz0 .i64 .i64 n n (by omega) (by omega) (by rw [hz2];omega) (by omega)
 rw [h,hz1]
 simp only [Int.toNat_natCast,Nat.mul_one,Value.cells]
 congr 3
 apply Array.ext'
 rw [toList_madeCells_one,wordsV_zero]
theorem VO.fresh {w:World} {n:Nat} (hn:n≤128):VO (w.alloc (.cells (wordsV (wcount n) 0).toArray 93)) (.agg #[.int .i64 n,.slice (some ⟨w.heap.size,0,none⟩) (wcount n) (wcount n)]) n 0 w.heap.size :=
 ⟨rfl,Blk.new 93 _,Nat.pow_pos (by decide),hn⟩
def Fresh (w:World) (n x:Nat) (e:Ending) (w':World):Prop:=∃ v b,e = .returned v∧VO w' v n x b∧w.heap.size≤b∧Below w.heap.size w w'
set_option maxRecDepth 100000 in
set_option maxHeartbeats 1000000 in
theorem blank_any {w:World} (n:Nat) (hn:n≤128):Calls Try.prog 61 #[.int .i64 n] w (Fresh w n 0):=by
 have HC:=Lib.hid (λ w=>count_any n w (by omega))
 have hmk:=λ w=>mk_words (wcount n) (by unfold wcount;omega) w
 have hni:(n:Int)≤128:=by omega
 have hk0:=(Blk.new (w:=w) 60 [.int .i64 0,.slice none 0 0]).alloc (.cells (wordsV (wcount n) 0).toArray 93)
 have hV:=VO.fresh (w:=w.alloc (.cells #[.int .i64 0,.slice none 0 0] 60)) hn
 have hB:Below w.heap.size w ((w.alloc (.cells #[.int .i64 0,.slice none 0 0] 60)).alloc (.cells (wordsV (wcount n) 0).toArray 93)):=(Below.new _ _).alloc (by simp) _
 rw [World.size_alloc] at hV
 have HH:=Lib.hid (And.intro hk0 (And.intro hV hB))
 have HN:=Lib.hid hn
 clear hk0 hV hB hn
 go_enter Try.func61,Try.ntmps61
 go_wp2_with fail
 refine (HC.out _).mono ?_;rintro e w' ⟨rfl,rfl⟩
 have r0:=HH.out.1.cell (i:=0) rfl
 have r1:=HH.out.1.cell (i:=1) rfl
 have rf0:=HH.out.1.frz 0
 have rf1:=HH.out.1.frz 1
 go_wp2_with fail
 have hk2:=(Blk.new (w:=w) 60 [.int .i64 n,.slice (some ⟨w.heap.size+1,0,none⟩) (wcount n) (wcount n)]).alloc (.cells (wordsV (wcount n) 0).toArray 93)
 have hV2:=VO.fresh (w:=w.alloc (.cells #[.int .i64 n,.slice (some ⟨w.heap.size+1,0,none⟩) (wcount n) (wcount n)] 60)) HN.out
 rw [World.size_alloc] at hV2
 have hB2:Below w.heap.size w ((w.alloc (.cells #[.int .i64 n,.slice (some ⟨w.heap.size+1,0,none⟩) (wcount n) (wcount n)] 60)).alloc (.cells (wordsV (wcount n) 0).toArray 93)):=(Below.new _ _).alloc (by simp) _
 generalize (w.alloc (.cells #[.int .i64 n,.slice (some ⟨w.heap.size+1,0,none⟩) (wcount n) (wcount n)] 60)).alloc (.cells (wordsV (wcount n) 0).toArray 93)=W2 at *
 have e0:=hk2.cell (i:=0) (u := .int .i64 n) rfl
 have e1:=hk2.cell (i:=1) (u := .slice (some ⟨w.heap.size+1,0,none⟩) (wcount n) (wcount n)) rfl
 exact bodyPost_ret (v := .agg #[.int .i64 n,.slice (some ⟨w.heap.size+1,0,none⟩) (wcount n) (wcount n)]) (by simp [results,Try.results61,go_sem,e0,e1]) rfl ⟨_,_,rfl,hV2,Nat.le_succ _,hB2⟩
end Go.Proofs.Ytlklleaocbnbcaa.L
namespace Go.Proofs.Ytlklleaocbnbcaa.L
set_option linter.unusedVariables false
open Go.RowKit
def vecO (n b:Nat):Value := .agg #[.int .i64 n,.slice (some ⟨b,0,none⟩) (wcount n) (wcount n)]
structure Bld (w:World) (bs:List (Nat × List Value)) (n x b:Nat) (wr:World):Prop where
 bx:∀ p∈bs,Blk wr p.1 60 p.2∧p.1≠b
 vo:VO wr (vecO n b) n x b
 bel:Below w.heap.size w wr
 ge:w.heap.size≤b
theorem Bld.box {w bs n x b wr} (h:Bld w bs n x b wr) {p:Nat × List Value} (hp:p∈bs):Blk wr p.1 60 p.2:=(h.bx p hp).1
theorem Bld.grown {w bs n x y b wr w'} (h:Bld w bs n x b wr) (hg:wr.grownBy w' (some b)) (hv:VO w' (vecO n b) n y b):Bld w bs n y b w':=by
 refine ⟨λ p hp => ?_,hv,below_grown h.bel hg h.bel.size h.ge,h.ge⟩
 obtain ⟨h1,h2⟩:=h.bx p hp
 refine ⟨?_,h2⟩
 unfold Blk at *
 rw [hg.block p.1 (some_lt h1) (by simpa using h2)];exact h1
theorem Bld.below {w bs n x b wr w'} (h:Bld w bs n x b wr) (hb:Below wr.heap.size wr w'):Bld w bs n x b w' :=
 ⟨λ p hp=>⟨(h.bx p hp).1.below hb (h.bx p hp).1.lt,(h.bx p hp).2⟩,h.vo.below hb,h.bel.trans (hb.mono h.bel.size),h.ge⟩
theorem Bld.alloc {w bs n x b wr} (h:Bld w bs n x b wr) (o:Obj):Bld w bs n x b (wr.alloc o):=h.below (Below.new _ _)
theorem Bld.start {w wr w':World} {bs:List (Nat × List Value)} {n b:Nat} (hbs:∀ p∈bs,Blk wr p.1 60 p.2) (hb:Below w.heap.size w wr) (hb':Below wr.heap.size wr w') (hv:VO w' (vecO n b) n 0 b) (hge:wr.heap.size≤b):Bld w bs n 0 b w' :=
 ⟨λ p hp=>⟨(hbs p hp).below hb' (hbs p hp).lt,by have:=(hbs p hp).lt;omega⟩,hv,hb.trans (hb'.mono hb.size),Nat.le_trans hb.size hge⟩
theorem Bld.ret {w bs n x b w3} (h:Bld w bs n x b w3) {R:Nat} {u v:Value} (hR:(R, [u,v])∈bs) (hge:w.heap.size≤R) :
  ((w3.setCell ⟨R,0,none⟩ (.int .i64 n)).setCell ⟨R,1,none⟩ (.slice (some ⟨b,0,none⟩) (wcount n) (wcount n))).cell? ⟨R,0,none⟩=some (.int .i64 n) ∧
  ((w3.setCell ⟨R,0,none⟩ (.int .i64 n)).setCell ⟨R,1,none⟩ (.slice (some ⟨b,0,none⟩) (wcount n) (wcount n))).cell? ⟨R,1,none⟩=some (.slice (some ⟨b,0,none⟩) (wcount n) (wcount n)) ∧
  VO ((w3.setCell ⟨R,0,none⟩ (.int .i64 n)).setCell ⟨R,1,none⟩ (.slice (some ⟨b,0,none⟩) (wcount n) (wcount n))) (vecO n b) n x b ∧
  Below w.heap.size w ((w3.setCell ⟨R,0,none⟩ (.int .i64 n)).setCell ⟨R,1,none⟩ (.slice (some ⟨b,0,none⟩) (wcount n) (wcount n))):=by
 obtain ⟨h1,h2⟩:=h.bx _ hR
 have hk:=(h1.set 0 (.int .i64 n)).set 1 (.slice (some ⟨b,0,none⟩) (wcount n) (wcount n))
 exact ⟨hk.cell (i:=0) rfl,hk.cell (i:=1) rfl,(h.vo.other (Ne.symm h2) _).other (Ne.symm h2) _,(h.bel.setCell hge _).setCell hge _⟩
theorem Bld.push {w bs n x b wr} (h:Bld w bs n x b wr) (l:List Value):Bld w ((wr.heap.size,l)::bs) n x b (wr.alloc (.cells l.toArray 60)):=by
 have h':=h.alloc (.cells l.toArray 60)
 refine ⟨λ p hp => ?_,h'.vo,h'.bel,h'.ge⟩
 rcases List.mem_cons.1 hp with rfl | hp
 ·exact ⟨Blk.new 60 l,by have:=h.vo.blk.lt;show wr.heap.size≠b;omega⟩
 ·exact h'.bx p hp
end Go.Proofs.Ytlklleaocbnbcaa.L
namespace Go.Proofs.Ytlklleaocbnbcaa.L
set_option linter.unusedVariables false
open Go.RowKit
end Go.Proofs.Ytlklleaocbnbcaa.L
namespace Go.Proofs.Ytlklleaocbnbcaa.L
set_option linter.unusedVariables false
open Go.RowKit
end Go.Proofs.Ytlklleaocbnbcaa.L
namespace Go.Proofs.Ytlklleaocbnbcaa.L
set_option linter.unusedVariables false
open Go.RowKit
theorem Blk.next {w w':World} {b t l} (h:Blk w b t l) (hb:Below w.heap.size w w'):Blk w' b t l:=h.below hb h.lt
end Go.Proofs.Ytlklleaocbnbcaa.L
namespace Go.Proofs.Ytlklleaocbnbcaa.L
set_option linter.unusedVariables false
open Go.RowKit
end Go.Proofs.Ytlklleaocbnbcaa.L
namespace Go.Proofs.Ytlklleaocbnbcaa.L
set_option linter.unusedVariables false
open Go.RowKit
theorem setB_ofB (f:Nat→Bool) (k:Nat):setB (ofB f k) k (f k)=ofB f (k+1):=by
 apply eq_bits;intro j
 rw [setB_bit,testBit_ofB,testBit_ofB]
 by_cases e:j=k
 ·subst e;simp
 ·rw [if_neg e]
  by_cases h:j<k
  ·simp [h,Nat.lt_succ_of_lt h]
  ·have:¬j<k+1:=by omega
   simp [h,this]
end Go.Proofs.Ytlklleaocbnbcaa.L
namespace Go.Proofs.Ytlklleaocbnbcaa.L
set_option linter.unusedVariables false
open Go.RowKit
end Go.Proofs.Ytlklleaocbnbcaa.L
namespace Go.Proofs.Ytlklleaocbnbcaa.L
set_option linter.unusedVariables false
open Go.RowKit
end Go.Proofs.Ytlklleaocbnbcaa.L
namespace Go.Proofs.Ytlklleaocbnbcaa.L
set_option linter.unusedVariables false
end Go.Proofs.Ytlklleaocbnbcaa.L
