import Derived.Test.YtcifiibpiooeiaaR12
namespace Go.Proofs.Ytcifiibpiooeiaa
set_option linter.unusedVariables false
open Go Go.Lib Go.RowKit Go.Sort

/-! ## Follows -/
/-- the clauses of a formula, as sets -/
def SetOf (cls : List (List Int)) (l : List Int) : Prop := ∃ l', l' ∈ cls ∧ ∀ x, x ∈ l' ↔ x ∈ l
theorem Fails.congr {c c' A : _} (h : ∀ l : List Int, c l ↔ c' l) : Fails c A ↔ Fails c' A := ⟨fun h' => h'.mono (fun l => (h l).1) (fun _ h => h), fun h' => h'.mono (fun l => (h l).2) (fun _ h => h)⟩
def FolR (w : World) (v : Nat) (cls : List (List Int)) (l : List Int) (e : Ending) (w' : World) : Prop :=
  ∃ f, e = .returned (.bool f) ∧ Below w.heap.size w w' ∧ (f = true ↔ l.any (badL v) = false ∧ Fails (SetOf cls) (fun x => -x ∈ l))
set_option maxHeartbeats 4000000 in
theorem kfollows_any {A : Nat → Prop} {w : World} {bc : Nat} {F : Nat → Prop} {v : Nat} {cls : List (List Int)} {lv : Value} {l : List Int} (h : HasC A w bc F v cls) (hw : WFC v cls) (hro : RO w lv 1 l.length (ints l)) (hl : l.length ≤ 1000000) :
    Calls Try.prog 9 #[.pointer (some ⟨bc, 0, none⟩), lv] w (FolR w v cls l) := by
  have HM := Lib.hid (made_any h hw)
  have HX := Lib.hid (And.intro hw (And.intro hro hl))
  obtain ⟨p, c, rfl⟩ := hro.form
  obtain ⟨n, hn⟩ : ∃ n, l.length = n := ⟨_, rfl⟩
  have HN := Lib.hid hn
  rw [hn] at HX ⊢
  clear h hw hro hl hn
  go_enter Try.func9, Try.ntmps9
  go_wp2_with fail
  refine HM.out.mono ?_; rintro e w1 ⟨b, S, V, rfl, hid, hbel, hSv, hSm, hSs, hSl, hcls⟩
  have hv6 := HX.out.1.hv
  have hn6 := HX.out.1.n
  have hro1 : ∀ W, Below w.heap.size w W → RO W (.slice p n c) 1 n (ints l) := fun W hb => HX.out.2.1.below hb
  have hk := kknown_any (l := l) hid.ck (by rw [HN.out]; exact hro1 w1 hbel) (by rw [HN.out]; exact HX.out.2.2) (by omega)
  rw [hSv] at hk
  have HK := Lib.hid hk
  have HI := Lib.hid (And.intro hid (And.intro hbel (And.intro hSv (And.intro hSm (And.intro hSs (And.intro hSl hcls))))))
  have HR := Lib.hid hro1
  obtain ⟨t, ht⟩ : ∃ t, l.any (badL v) = t := ⟨_, rfl⟩
  rw [ht] at HK
  have HT := Lib.hid ht
  clear hid hbel hSv hSm hSs hSl hcls hv6 hn6 hk hro1 ht
  cases t with
  | true =>
    go_wp2_with fail
    refine HK.out.mono ?_; rintro e w2 ⟨rfl, hb2⟩
    have HB := Lib.hid hb2
    clear hb2
    go_wp2_with fail
    go_ret
    exact ⟨false, rfl, HI.out.2.1.trans (HB.out.mono HI.out.2.1.size), by simp [HT.out]⟩
  | false =>
    go_wp2_with fail
    refine HK.out.mono ?_; rintro e w2 ⟨rfl, hb2⟩
    have hbel2 := HI.out.2.1.trans (hb2.mono HI.out.2.1.size)
    have hf := follows_any (l := l) (n := n) (lv := .slice p n c) (HI.out.1.below hb2) (fun x hx => by rw [HI.out.2.2.1]; exact bad_none HT.out x hx) HN.out HX.out.2.2 (fun W hb => HR.out W (hbel2.trans hb)) (by rw [HI.out.2.2.1]; have := HX.out.1.hv; omega) (by rw [HI.out.2.2.2.1]; have := HX.out.1.n; omega)
      (fun i => Nat.le_trans (HI.out.2.2.2.2.2.1 i) (by omega)) (Nat.le_trans HI.out.2.2.2.2.1 (by have := HX.out.1.n; omega))
    have HF := Lib.hid hf
    have HB := Lib.hid hbel2
    clear hf hbel2 hb2
    go_wp2_with fail
    refine HF.out.mono ?_; rintro e w3 ⟨f, S3, V3, rfl, hid3, hb3, hsame, hiff⟩
    have H3 := Lib.hid (And.intro hb3 hiff)
    clear hid3 hb3 hsame hiff
    go_wp2_with fail
    go_ret
    refine ⟨f, rfl, HB.out.trans H3.out.1, H3.out.2.trans ?_⟩
    rw [Fails.congr HI.out.2.2.2.2.2.2]
    exact ⟨fun h => ⟨HT.out, h⟩, fun h => h.2⟩
end Go.Proofs.Ytcifiibpiooeiaa
