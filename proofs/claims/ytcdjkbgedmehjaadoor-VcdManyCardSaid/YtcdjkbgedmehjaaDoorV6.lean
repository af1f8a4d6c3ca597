import Derived.Test.YtcdjkbgedmehjaaDoorV5
import Derived.Test.YtcdjkbgedmehjaaDoorS2
namespace Go.Proofs.YtcdjkbgedmehjaaDoor
set_option linter.unusedVariables false
open Go.RowKit Go.Sort

/-! # is there a Var that ..? -/
def varV (x : Bs × Nat) : Value := .agg #[.string (bstr x.1), .int .i64 x.2]
/-- a function value that answers P and changes nothing old -/
def Asks (f : Value) (P : Bs × Nat → Bool) (w : World) : Prop := ∃ k bs, f = .func (Fn.func k) #[] bs ∧ (∀ args w, Sem.run Tryd.prog (callFunc k args) w = .ok (.enter k args) w) ∧ ∀ x w', Below w.heap.size w w' → Calls Tryd.prog k (#[varV x] ++ bs) w' fun e w'' => e = .returned (.bool (P x)) ∧ Below w'.heap.size w' w''
set_option maxRecDepth 100000 in
set_option maxHeartbeats 2000000 in
theorem idxf_any {w : World} {f : Value} {P : Bs × Nat → Bool} (hf : Asks f P w) (l : List (Bs × Nat)) {v : Value} (hr : RO w v 2 l.length (tokCells l)) (hn : (l.length : Int) ≤ 3000000) :
    Calls Tryd.prog 53 #[v, f] w fun e w' => ∃ r : Int, e = .returned (.int .i64 r) ∧ (0 ≤ r ↔ l.any P = true) ∧ Below w.heap.size w w' := by
  obtain ⟨p, c, rfl⟩ := hr.form
  obtain ⟨fk, bs, rfl, hE, hC⟩ := hf
  obtain ⟨n, hnn⟩ : ∃ n, l.length = n := ⟨_, rfl⟩
  have H := Lib.hid (And.intro hr (And.intro hC hE))
  have HN := Lib.hid hnn
  rw [hnn] at H hn ⊢
  clear hr hC hE hnn
  go_enter Tryd.func53, Tryd.ntmps53
  go_wp2_with fail
  go_loopw [8] (fun i wr => ∃ k : Nat, k ≤ n ∧ i = .int .i64 k ∧ (l.take k).any P = false ∧ Below w.heap.size w wr) (fun i _ => n - (intOf i).toNat)
  case atStart => exact ⟨0, Nat.zero_le _, rfl, by simp, Below.refl _ _⟩
  case round =>
    obtain ⟨k, hk, rfl, hno, hbel⟩ := hrel
    have HR := Lib.hid (And.intro hno hbel)
    clear hno hbel
    by_cases hlt : k < n
    · obtain ⟨x, hx⟩ : ∃ x, l[k]? = some x := ⟨_, List.getElem?_eq_getElem (by rw [HN.out]; exact hlt)⟩
      have hro := H.out.1.below HR.out.2
      obtain ⟨bb, o, rfl⟩ := hro.sl (tokCells_at _ _ _ hx).1
      have h0 := hro.cell (tokCells_at _ _ _ hx).1
      have h1 := hro.cell (tokCells_at _ _ _ hx).2
      rw [← Nat.add_assoc] at h1
      have HC := Lib.hid (H.out.2.1 x wr HR.out.2)
      have hsn : (l.take (k + 1)).any P = P x := by
        rw [List.take_add_one, hx]; simp [HR.out.1]
      have hmem : P x = true → l.any P = true := fun hp => List.any_eq_true.2 ⟨x, List.mem_of_getElem? hx, hp⟩
      obtain ⟨q, hq⟩ : ∃ q, P x = q := ⟨_, rfl⟩
      rw [hq] at HC hsn hmem
      have HS := Lib.hid (And.intro hsn hmem)
      have hwr : IntKind.i64.wrap ((k : Int) + 1) = (k : Int) + 1 := i64_of (by omega)
      obtain ⟨X, Y⟩ := x
      unfold varV at HC
      simp only at h0 h1 HC
      generalize bstr X = X' at *
      clear hro hx hsn hmem hq
      go_wp2_with fail
      rw [H.out.2.2, Oper.upon_enter]
      refine HC.out.mono ?_; rintro e w2 ⟨rfl, hb2⟩
      have HB := Lib.hid (HR.out.2.trans (hb2.mono HR.out.2.size))
      clear hb2 h0 h1
      cases q
      · go_wp2_with fail
        go_roundw
        case rel => exact ⟨k + 1, by omega, by go_num, HS.out.1, HB.out⟩
        case measure => simp [intOf]; omega
      · go_wp2_with fail
        go_ret
        exact ⟨k, rfl, ⟨fun _ => HS.out.2 (by simp), fun _ => by omega⟩, HB.out⟩
    · obtain rfl : k = n := by omega
      clear hlt
      go_wp2_with fail
      go_ret
      have e := HR.out.1
      rw [← HN.out, List.take_length] at e
      exact ⟨-1, rfl, ⟨fun h => by omega, fun h => by rw [e] at h; cases h⟩, HR.out.2⟩
theorem hasf_any {w : World} {f : Value} {P : Bs × Nat → Bool} (hf : Asks f P w) (l : List (Bs × Nat)) {v : Value} (hr : RO w v 2 l.length (tokCells l)) (hn : (l.length : Int) ≤ 3000000) :
    Calls Tryd.prog 28 #[v, f] w fun e w' => e = .returned (.bool (l.any P)) ∧ Below w.heap.size w w' := by
  have HI := Lib.hid (idxf_any hf l hr hn)
  clear hf hr hn
  obtain ⟨q, hq⟩ : ∃ q, l.any P = q := ⟨_, rfl⟩
  rw [hq] at HI ⊢
  clear hq
  go_enter Tryd.func28, Tryd.ntmps28
  go_wp2_with fail
  refine HI.out.mono ?_; rintro e w2 ⟨r, rfl, hf, hb2⟩
  have HF := Lib.hid (And.intro hf hb2)
  clear hf hb2
  go_wp2_with fail
  go_ret
  exact ⟨congrArg (fun b => Ending.returned (Value.bool b)) (by rw [Bool.eq_iff_iff, ← HF.out.1]; simp), HF.out.2⟩
theorem bstr_toList (l : Bs) : (bstr l).toList = l := by rw [ByteArray.toList_eq]; simp [bstr]
theorem str_eq (a b : Bs) : ((bstr a).toList == (bstr b).toList) = decide (a = b) := by
  rw [bstr_toList, bstr_toList]
  by_cases h : a = b
  · subst h; simp
  · rw [decide_eq_false h, beq_eq_false_iff_ne]; exact h
set_option maxRecDepth 100000 in
theorem named1_any {w : World} {g : Nat} {nm : Bs} (hb : Blk w g 9 [.string (bstr nm)]) (x : Bs × Nat) :
    Calls Tryd.prog 54 #[varV x, .pointer (some ⟨g, 0, none⟩)] w fun e w' => e = .returned (.bool (decide (x.1 = nm))) ∧ Below w.heap.size w w' := by
  have hB := Below.new w (.cells #[.string (bstr x.1), .int .i64 x.2] 30)
  have k0 := (hb.next hB).cell (i := 0) rfl
  have HB := Lib.hid hB
  have HE := Lib.hid (str_eq x.1 nm)
  clear hb hB
  unfold varV
  generalize bstr x.1 = X at *
  generalize bstr nm = Y at *
  go_enter Tryd.func54, Tryd.ntmps54
  go_wp2_with fail
  go_ret
  exact ⟨congrArg (fun b => Ending.returned (Value.bool b)) HE.out, HB.out⟩
theorem named_any {w : World} {v : Value} (l : List (Bs × Nat)) (nm : Bs) (hr : RO w v 2 l.length (tokCells l)) (hn : (l.length : Int) ≤ 3000000) :
    Calls Tryd.prog 30 #[v, .string (bstr nm)] w fun e w' => e = .returned (.bool (l.any fun x => decide (x.1 = nm))) ∧ Below w.heap.size w w' := by
  have hB := Below.new w (.cells #[.string (bstr nm)] 9)
  have hk : Blk (w.alloc (.cells #[.string (bstr nm)] 9)) w.heap.size 9 [.string (bstr nm)] := Blk.new _ _
  have hA : Asks (.func (Fn.func 54) #[] #[.pointer (some ⟨w.heap.size, 0, none⟩)]) (fun x => decide (x.1 = nm)) (w.alloc (.cells #[.string (bstr nm)] 9)) :=
    ⟨_, _, rfl, fun _ _ => by kernel_rfl, fun x w' hb => named1_any (hk.next hb) x⟩
  have HC := Lib.hid (hasf_any hA l (hr.below hB) hn)
  have HB := Lib.hid hB
  obtain ⟨p, c, rfl⟩ := hr.form
  clear hB hk hA hr hn
  generalize (l.any fun x => decide (x.1 = nm)) = q at *
  generalize l.length = n at *
  generalize bstr nm = Y at *
  go_enter Tryd.func30, Tryd.ntmps30
  go_wp2_with fail
  refine HC.out.mono ?_; rintro e w2 ⟨rfl, hb2⟩
  have HF := Lib.hid (HB.out.trans (hb2.mono HB.out.size))
  clear hb2
  go_wp2_with fail
  go_ret
  exact ⟨rfl, HF.out⟩
end Go.Proofs.YtcdjkbgedmehjaaDoor
