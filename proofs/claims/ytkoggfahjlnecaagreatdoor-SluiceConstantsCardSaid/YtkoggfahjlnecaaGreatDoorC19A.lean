import Derived.Test.YtkoggfahjlnecaaGreatDoorC18
namespace Go.Proofs.YtkoggfahjlnecaaGreatDoor
set_option linter.unusedVariables false
open Go.RowKit

def webOpR (ops : Array Oper) (es : List Nat) (size i : Nat) (o : Oper) : Bool :=
  if earlyB es i then
    (o.after.all fun e => !Region.binds .any e || (decide (e.on < i) && earlyB es e.on)) &&
    (match o.dst with | some d => decide (d < size) | none => false) &&
    (early es).all (fun j => j == i || ((ops[j]?).bind (·.dst)) != o.dst) &&
    (o.looksAt ops).all (fun t => (early es).all fun j => ((ops[j]?).bind (·.dst)) != some t || depB o j) &&
    (!freeB es i || (List.range ops.size).all fun j => j == i || match ops[j]? with | some o' => depB o' i || depB o j || o.apart ops o' | none => true)
  else
    o.after.any (fun e => Region.binds .any e && !earlyB es e.on) ||
    (early es).all fun j => freeB es j || o.after.any fun e => Region.binds .any e && (e.on == j || reachB ops 12 e.on j)
def webBR (ops : Array Oper) (es : List Nat) (size : Nat) : Bool :=
  Region.noSelect ops && decide (es.length ≤ ops.size) && (List.range ops.size).all fun i => match ops[i]? with
    | some o => webOpR ops es size i o
    | none => true
/-! # the web rule, with reach -/
theorem web_coreR {P : Program} {ops : List Oper} {Q : Exit → Act → World → Prop} {a0 : Act} {w0 : World} {sp : List Sp} {es : List Nat} {base : List (Nat × Nat × List Value)} {size k : Nat} {l1 : Array Bool}
    (hchk : webBR ops.toArray es size = true) (hlen : es.length = sp.length) (hsz : size ≤ a0.tmps.size) (hl : ((List.range ops.length).map (earlyB es)).toArray = l1) (hmono : MonoAll sp)
    {A : (Nat → Value) → Act} (hA : ∀ u, fillL (earlyB es) ops sp u 0 a0 = A u) (hQ : ∀ c a (d : Tmp) v w, Q (.panic c) (a.put (some d) v) w → Q (.panic c) a w) (hob : ∀ i, earlyB es i = true → freeB es i = false → WebOb P ops.toArray w0 base sp A i) (hpu : ∀ i, freeB es i = true → WebPure P ops.toArray w0 base sp A i)
    (hend : ∀ u w', Tr w0 (ownsL (earlyB es) sp u 0 ++ base) w' → okAll (earlyB es) sp u 0 w' → wpAny P .any ops.toArray Q k l1 (A u) w') :
    ∀ (fuel : Nat) (listed : Array Bool) (u : Nat → Value) (w : World) (todo : List Nat), listed.size = ops.length → (∀ j, earlyB es j = false → listed.getD j false = false) →
      (∀ j o, ops[j]? = some o → listed.getD j false = true → ∀ i, depB o i = true → listed.getD i false = true) → (∀ j, earlyB es j = true → listed.getD j false = false → j ∈ todo) → todo.length + k ≤ fuel →
      Tr w0 (ownsL (fun j => listed.getD j false) sp u 0 ++ base) w → (∀ j, listed.getD j false = true → okAt sp j (u j) w) →
      wpAny P .any ops.toArray Q fuel listed (fillL (fun j => listed.getD j false) ops sp u 0 a0) w := by
  simp only [webBR, Bool.and_eq_true, decide_eq_true_eq, List.all_eq_true, List.mem_range, List.size_toArray] at hchk
  obtain ⟨⟨hsel, hn1⟩, hops⟩ := hchk
  have hops' : ∀ i o, ops[i]? = some o → webOpR ops.toArray es size i o = true := fun i o ho => by
    have := hops i (List.getElem?_eq_some_iff.1 ho).1
    simpa [ho] using this
  have hein : ∀ j, earlyB es j = true → j < sp.length := fun j hj => by
    have := mem_early.2 hj
    unfold early at this
    rw [List.mem_filter, List.mem_range] at this
    omega
  have hdone : ∀ (fuel : Nat) (listed : Array Bool) (u : Nat → Value) (w : World), k ≤ fuel → listed.size = ops.length → (∀ j, earlyB es j = false → listed.getD j false = false) → (∀ j, earlyB es j = true → listed.getD j false = true) →
      Tr w0 (ownsL (fun j => listed.getD j false) sp u 0 ++ base) w → (∀ j, listed.getD j false = true → okAt sp j (u j) w) →
      wpAny P .any ops.toArray Q fuel listed (fillL (fun j => listed.getD j false) ops sp u 0 a0) w := by
    intro fuel listed u w hf hls hhi hall hT hok
    have hle : ∀ j, listed.getD j false = earlyB es j := fun j => by
      cases h : earlyB es j with
      | true => exact hall j h
      | false => exact hhi j h
    have hl1 : listed = l1 := by
      rw [← hl]
      apply Array.ext
      · simp [hls]
      · intro i h1 h2
        have := hle i
        rw [Array.getD_eq_getD_getElem?, Array.getElem?_eq_getElem h1] at this
        simpa using this
    rw [fill_congr (l := fun j => listed.getD j false) (l' := earlyB es) (u := u) (u' := u) ops sp 0 a0 (fun q _ => hle q) (fun _ _ => rfl), hA]
    rw [owns_congr (l := fun j => listed.getD j false) (l' := earlyB es) (u := u) (u' := u) sp 0 (fun q _ => hle q) (fun _ _ => rfl)] at hT
    have := hend u w hT (okAll_of sp 0 fun q _ he => by rw [Nat.zero_add] at he ⊢; exact hok q (hall q he))
    rw [hl1]; exact wpAny_le hf this
  intro fuel
  induction fuel with
  | zero =>
    intro listed u w todo hls hhi hcl htodo hf hT hok
    have ht : todo = [] := List.eq_nil_of_length_eq_zero (by omega)
    refine hdone 0 listed u w (by omega) hls hhi (fun j hj => ?_) hT hok
    cases h : listed.getD j false with
    | true => rfl
    | false => have := htodo j hj h; rw [ht] at this; cases this
  | succ fuel ih =>
    intro listed u w todo hls hhi hcl htodo hf hT hok
    by_cases hall : ∀ j, earlyB es j = true → listed.getD j false = true
    · exact hdone _ listed u w (by omega) hls hhi hall hT hok
    · have hex : ∃ j, earlyB es j = true ∧ listed.getD j false = false := by
        apply Classical.byContradiction
        intro hno
        exact hall fun j hj => by
          cases h : listed.getD j false with
          | true => rfl
          | false => exact (hno ⟨j, hj, h⟩).elim
      obtain ⟨j0, hj0, hun0⟩ := hex
      have hfe : ∀ j, freeB es j = true → earlyB es j = true := fun j hj => by
        have h1 : es.getD j 0 = 2 := by simpa only [freeB, beq_iff_eq] using hj
        unfold earlyB; rw [h1]; rfl
      have hle : ∀ j, listed.getD j false = true → earlyB es j = true := fun j hj => by
        cases h : earlyB es j with
        | true => rfl
        | false => rw [hhi j h] at hj; cases hj
      have common : ∀ i, i ∈ Region.ready .any ops.toArray listed → earlyB es i = true → ∃ o d, ops[i]? = some o ∧ o.dst = some d ∧ (∀ j, depB o j = true → okAt sp j (u j) w) ∧ d < (A u).tmps.size ∧
          execOp (fillL (fun j => listed.getD j false) ops sp u 0 a0).eval o = execOp (A u).eval o ∧ Region.wanted o (yielded ops.toArray (fillL (fun j => listed.getD j false) ops sp u 0 a0).tmps) = Region.wanted o (yielded ops.toArray (A u).tmps) ∧
          (freeB es i = true → ∀ j oj, ops.toArray[j]? = some oj → j ≠ i → listed.getD j true = false → depB oj i = false → o.apart ops.toArray oj = true) ∧
          (∀ v w', (Below w.heap.size w w' ∧ okAt sp i v w' ∧ (∀ p ∈ ownAt sp i v, Blk w' p.1 p.2.1 p.2.2 ∧ w.heap.size ≤ p.1) ∧ ((ownAt sp i v).map (·.1)).Nodup) →
            wpAny P .any ops.toArray Q fuel (listed.setIfInBounds i true) ((fillL (fun j => listed.getD j false) ops sp u 0 a0).put o.dst v) w') := by
        intro i hi hi1
        obtain ⟨hun, o, ho0, hdep⟩ := mem_ready.1 hi
        have ho : ops[i]? = some o := by simpa using ho0
        obtain ⟨his, hunf⟩ := getD_tf hun
        have hw := hops' i o ho
        have hdB : ∀ q, depB o q = true → listed.getD q false = true := fun q hq => by
          obtain ⟨e, he, hb⟩ := Array.any_eq_true'.1 hq
          simp only [Bool.and_eq_true, beq_iff_eq] at hb
          rw [← hb.2]; exact hdep e he hb.1
        have hi2 := hein i hi1
        simp only [webOpR, hi1, if_true, Bool.and_eq_true, Array.all_eq_true_iff_forall_mem, List.all_eq_true] at hw
        obtain ⟨⟨⟨⟨hedge, hdst⟩, hdist⟩, hlook⟩, hfr⟩ := hw
        obtain ⟨d, hd⟩ : ∃ d, o.dst = some d := by
          cases hx : o.dst with
          | none => simp [hx] at hdst
          | some d => exact ⟨d, rfl⟩
        have hdsz : d < size := by simpa [hd] using hdst
        have hLk : ∀ t ∈ o.looksAt ops.toArray, (fillL (fun j => listed.getD j false) ops sp u 0 a0).tmps[t]? = (A u).tmps[t]? := fun t ht => by
          rw [← hA]
          refine fill_get ops sp 0 a0 a0 rfl rfl hle fun q o' ho' hq hd' => ?_
          rw [Nat.zero_add] at hq ⊢
          have h1 := hlook t ht q (mem_early.2 hq)
          simp only [List.getElem?_toArray, ho', Option.bind_some, hd', Bool.or_eq_true, bne_self_eq_false, Bool.false_eq_true, false_or] at h1
          exact hdB q h1
        obtain ⟨he, hwant⟩ := web_looks (Region.noSelect_spec hsel i o · · ho0) hLk
        have hbsz : d < (A u).tmps.size := by rw [← hA, fill_size]; exact Nat.lt_of_lt_of_le hdsz hsz
        refine ⟨o, d, ho, hd, fun j hj => hok j (hdB j hj), hbsz, he, hwant, fun hf j oj hoj hne hju hnd => ?_, ?_⟩
        · rw [hf] at hfr
          simp only [Bool.not_true, Bool.false_or, List.all_eq_true, List.mem_range, List.size_toArray] at hfr
          have hj : ops[j]? = some oj := by simpa using hoj
          have h1 := hfr j (List.getElem?_eq_some_iff.1 hj).1
          have hnj : depB o j = false := by
            cases hx : depB o j with
            | false => rfl
            | true => have := hdB j hx; rw [(getD_tf hju).2] at this; cases this
          simpa [hj, hne, hnd, hnj] using h1
        · rintro v w' ⟨hb, hv, hown, hnd⟩
          obtain ⟨u', hu'⟩ : ∃ u' : Nat → Value, u' = fun j => if j = i then v else u j := ⟨_, rfl⟩
          have hui : u' i = v := by rw [hu']; simp
          have huo : ∀ q, q ≠ i → u' q = u q := fun q hq => by rw [hu']; simp [hq]
          have hfs := fill_set (e := earlyB es) (l := fun j => listed.getD j false) (l' := fun j => (listed.setIfInBounds i true).getD j false) (u := u) (u' := u') (d := d) ops sp 0 i a0 o hi2 ho hd hle (fun k' o' hne hek ho' => by
              rw [Nat.zero_add] at hek
              have h1 := hdist k' (mem_early.2 hek)
              simp only [List.getElem?_toArray, ho', Option.bind_some, Bool.or_eq_true, beq_iff_eq, hne, false_or, bne_iff_ne, hd] at h1
              exact h1) (by simpa using hunf) (by rw [Nat.zero_add, getD_set his]; simp) (fun q hq => by rw [Nat.zero_add] at hq; rw [getD_set his, if_neg hq]) (fun q hq => huo q (by simpa using hq))
          rw [Nat.zero_add, hui, Sp.val_ok hv, ← hd] at hfs
          rw [← hfs]
          have hmem : i ∈ todo := htodo i hi1 hunf
          refine ih _ u' w' (todo.erase i) (by simpa using hls) (fun j hj => ?_) (fun j o' ho' hj q hq => ?_) (fun j hj hjl => ?_) ?_ ?_ (fun j hjl => ?_)
          · rw [getD_set his, if_neg (fun e => by rw [e, hi1] at hj; cases hj)]; exact hhi j hj
          · rw [getD_set his] at hj ⊢
            by_cases e : q = i
            · rw [if_pos e]
            · rw [if_neg e]
              by_cases e2 : j = i
              · subst e2
                rw [ho] at ho'
                obtain rfl := Option.some.inj ho'
                exact hdB q hq
              · rw [if_neg e2] at hj
                exact hcl j o' ho' hj q hq
          · rw [getD_set his] at hjl
            by_cases e : j = i
            · rw [if_pos e] at hjl; cases hjl
            · rw [if_neg e] at hjl
              exact (List.mem_erase_of_ne e).2 (htodo j hj hjl)
          · rw [List.length_erase_of_mem hmem]
            have := List.length_pos_of_mem hmem
            omega
          · have hp := owns_set (l := fun j => listed.getD j false) (l' := fun j => (listed.setIfInBounds i true).getD j false) (u := u) (u' := u') sp 0 i hi2 (by simpa using hunf) (by rw [Nat.zero_add, getD_set his]; simp) (fun q hq => by rw [Nat.zero_add] at hq; rw [getD_set his, if_neg hq]) (fun q hq => huo q (by simpa using hq))
            rw [Nat.zero_add, hui] at hp
            have h1 := hT.many hb hown hnd
            rw [← List.append_assoc] at h1
            exact h1.perm (List.Perm.append_right _ hp)
          · rw [getD_set his] at hjl
            by_cases e : j = i
            · subst e; rw [hui]; exact hv
            · rw [if_neg e] at hjl
              rw [huo j e]
              exact hmono.get j _ _ _ hb (hok j hjl)
      have hleast : ∀ j0, earlyB es j0 = true → listed.getD j0 false = false → ∃ i, i ≤ j0 ∧ earlyB es i = true ∧ i ∈ Region.ready .any ops.toArray listed ∧ (∀ j, j < i → ¬ (earlyB es j = true ∧ listed.getD j false = false)) := by
        intro j0 hj0 hun0
        obtain ⟨i, hij, ⟨hi1, hi2⟩, hmin⟩ := least (p := fun j => earlyB es j = true ∧ listed.getD j false = false) j0 ⟨hj0, hun0⟩
        have hio : i < ops.length := by have := hein i hi1; omega
        have ho : ops[i]? = some ops[i] := List.getElem?_eq_getElem hio
        have hw := hops' i _ ho
        simp only [webOpR, hi1, if_true, Bool.and_eq_true, Array.all_eq_true_iff_forall_mem] at hw
        exact ⟨i, hij, hi1, mem_ready.2 ⟨getD_ft (by omega) hi2, ops[i], by simp, fun e he hb => by
          have h1 := hw.1.1.1.1 e he
          rw [hb] at h1
          have h2 : e.on < i ∧ earlyB es e.on = true := by simpa using h1
          cases h : listed.getD e.on false with
          | true => rfl
          | false => exact (hmin e.on h2.1 ⟨h2.2, h⟩).elim⟩, hmin⟩
      by_cases hpr : ∃ i, i ∈ Region.ready .any ops.toArray listed ∧ freeB es i = true
      · obtain ⟨i, hi, hf⟩ := hpr
        obtain ⟨o, d, ho, hd, hdk, hbsz, he, hwant, hap, next⟩ := common i hi (hfe i hf)
        obtain ⟨v, hy, hv, hown⟩ := hpu i hf o (by simpa using ho) u w hT.base hdk
        refine wpAny_first (i := i) (oi := o) (v := v) (by simpa using ho) (Region.noSelect_spec hsel) (fun c a w h => by rw [hd] at h; exact hQ c a _ _ w h) fuel listed _ w (fun j oj hoj hne hju hno => hap hf j oj hoj hne hju ?_) hi (hy.of_same he hwant)
          (next v w ⟨Below.refl _ _, hv, by rw [hown]; exact fun p hp => (by cases hp), by rw [hown]; exact List.nodup_nil⟩)
        cases hx : depB oj i with
        | false => rfl
        | true =>
          obtain ⟨e, he', hb⟩ := Array.any_eq_true'.1 hx
          simp only [Bool.and_eq_true, beq_iff_eq] at hb
          exact (hno e he' hb.1 hb.2).elim
      · refine ⟨fun h0 => ?_, fun i hi => ?_⟩
        · obtain ⟨i, _, _, hr, _⟩ := hleast j0 hj0 hun0
          rw [h0] at hr; cases hr
        · have hi1 : earlyB es i = true := by
            cases hge : earlyB es i with
            | true => rfl
            | false =>
            obtain ⟨hun, o, ho0, hdep⟩ := mem_ready.1 hi
            have ho : ops[i]? = some o := by simpa using ho0
            have hw := hops' i o ho
            simp only [webOpR, hge, Bool.false_eq_true, if_false, Bool.or_eq_true] at hw
            rcases hw with h | h
            · obtain ⟨e, he, hb⟩ := Array.any_eq_true'.1 h
              simp only [Bool.and_eq_true, Bool.not_eq_true'] at hb
              have h1 := hdep e he hb.1
              rw [hhi _ hb.2] at h1; cases h1
            · simp only [List.all_eq_true] at h
              obtain ⟨q, _, hq1, hqr, _⟩ := hleast j0 hj0 hun0
              have hqf : freeB es q = false := by
                cases hx : freeB es q with
                | false => rfl
                | true => exact (hpr ⟨q, hqr, hx⟩).elim
              have hqu := (getD_tf (mem_ready.1 hqr).1).2
              have hq := h q (mem_early.2 hq1)
              rw [hqf] at hq
              simp only [Bool.false_or] at hq
              obtain ⟨e, he, hb⟩ := Array.any_eq_true'.1 hq
              simp only [Bool.and_eq_true, Bool.or_eq_true, beq_iff_eq] at hb
              have h1 := hdep e he hb.1
              rcases hb.2 with h2 | h2
              · rw [h2, hqu] at h1; cases h1
              · have := reach_listed hcl q 12 e.on h1 h2
                rw [hqu] at this; cases this
          have hif : freeB es i = false := by
            cases hx : freeB es i with
            | false => rfl
            | true => exact (hpr ⟨i, hi, hx⟩).elim
          obtain ⟨o, d, ho, hd, hdk, hbsz, he, hwant, hap, next⟩ := common i hi hi1
          have ho0 : ops.toArray[i]? = some o := by simpa using ho
          have hO := hob i hi1 hif o ho0 u w hT.base hdk (fun _ _ _ => False)
            (fun b' w' => ∃ v, b' = (A u).put o.dst v ∧ (Below w.heap.size w w' ∧ okAt sp i v w' ∧ (∀ p ∈ ownAt sp i v, Blk w' p.1 p.2.1 p.2.2 ∧ w.heap.size ≤ p.1) ∧ ((ownAt sp i v).map (·.1)).Nodup))
            (fun v w' h1 h2 h3 h4 => ⟨v, rfl, h1, h2, h3, h4⟩)
          unfold wpOp
          simp only [ho0]
          rw [hwant]
          by_cases hw2 : Region.wanted o (yielded ops.toArray (A u).tmps) = true
          · rw [if_pos hw2] at hO ⊢
            exact .inl (wp_move hd hbsz he next hO)
          · rw [if_neg hw2] at hO ⊢
            obtain ⟨v, e, hF⟩ := hO
            rw [hd] at e
            obtain rfl := put_inj hbsz e
            exact next _ _ hF
theorem wp_region_webR {P : Program} {id : Nat} {ops : List Oper} {Q : Exit → Act → World → Prop} {a0 : Act} {w0 w : World} (sp : List Sp) (es : List Nat) (base : List (Nat × Nat × List Value)) (size k : Nat) (l1 : Array Bool)
    (hm : P.follows .mixedOrders = true) (hchk : webBR ops.toArray es size = true) (hlen : es.length = sp.length) (hk : (early es).length + k = ops.length) (hl : ((List.range ops.length).map (earlyB es)).toArray = l1)
    (hsz : size ≤ a0.tmps.size) (hmono : MonoAll sp) (hT : Tr w0 base w.drew) (hQ : ∀ c a (d : Tmp) v w, Q (.panic c) (a.put (some d) v) w → Q (.panic c) a w) {A : (Nat → Value) → Act} (hA : ∀ u, fillL (earlyB es) ops sp u 0 a0 = A u) (hob : ObAll (WebOb P ops.toArray w0 base sp A) (WebPure P ops.toArray w0 base sp A) es 0)
    (hend : ∀ u w', Tr w0 (ownsL (earlyB es) sp u 0 ++ base) w' → okAll (earlyB es) sp u 0 w' → wpAny P .any ops.toArray Q k l1 (A u) w') : (Code.region id ops.toArray true).wp P Q a0 w := by
  refine wp_region_any hm ?_
  have hnone : ∀ j, (Array.replicate ops.length false).getD j false = false := fun j => by
    rw [Array.getD_eq_getD_getElem?, Array.getElem?_replicate]; split <;> rfl
  have h := web_coreR hchk hlen hsz hl hmono hA hQ (fun i h1 h2 => by have := (hob.out i).1 h1 h2; rwa [Nat.zero_add] at this) (fun i h => by have := (hob.out i).2 h; rwa [Nat.zero_add] at this) hend ops.length (Array.replicate ops.length false) (fun _ => undef) w.drew (early es) (by simp) (fun j _ => hnone j)
    (fun j o _ hj => by rw [hnone] at hj; cases hj) (fun j hj _ => mem_early.2 hj) (by omega)
    (by rw [owns_none sp 0 hnone]; exact hT) (fun j hj => by rw [hnone] at hj; cases hj)
  rw [fill_none ops sp 0 a0 hnone] at h
  simpa using h
theorem wp_region_webCR {P : Program} {id : Nat} {ops : List Oper} {Q : Exit → Act → World → Prop} {a0 : Act} {w0 w : World} (sp : List Sp) (es : List Nat) (base : List (Nat × Nat × List Value)) (size k : Nat) (l1 : Array Bool)
    (hm : P.follows .mixedOrders = true) (hchk : webBR ops.toArray es size = true) (hlen : es.length = sp.length) (hk : (early es).length + k = ops.length) (hl : ((List.range ops.length).map (earlyB es)).toArray = l1)
    (hsz : size ≤ a0.tmps.size) (hmono : MonoAll sp) (hT : Tr w0 base w.drew) (hQ : ∀ c a (d : Tmp) v w, Q (.panic c) (a.put (some d) v) w → Q (.panic c) a w) {A : (Nat → Value) → Act} (hA : ∀ u, fillC es ops sp u 0 a0 = A u) (hob : ObAll (WebOb P ops.toArray w0 base sp A) (WebPure P ops.toArray w0 base sp A) es 0)
    (hend : ∀ u w', Tr w0 (ownsC es sp u 0 ++ base) w' → okAll (earlyB es) sp u 0 w' → wpAny P .any ops.toArray Q k l1 (A u) w') : (Code.region id ops.toArray true).wp P Q a0 w :=
  wp_region_webR sp es base size k l1 hm hchk hlen hk hl hsz hmono hT hQ (fun u => by rw [fillC_eq es ops sp 0 a0 _ (fun k => by rw [Nat.zero_add])]; exact hA u) hob
    (fun u w' h1 h2 => hend u w' (by rw [← ownsC_eq es sp 0 (earlyB es) (fun k => by rw [Nat.zero_add])]; exact h1) h2)
end Go.Proofs.YtkoggfahjlnecaaGreatDoor
