import Derived.Test.YtmimafbedbohiaaA17
namespace Go.Proofs.Ytmimafbedbohiaa
set_option linter.unusedVariables false
open Go.RowKit

/-- a vector's words lie in no old block -/
def Far (w : World) (v : Value) : Prop := ∀ k p m c b o, v = .agg #[k, .slice p m c] → p = some ⟨b, o, none⟩ → w.heap.size ≤ b
theorem Far.zero (w : World) (k : Value) : Far w (.agg #[k, .slice none 0 0]) := fun _ _ _ _ _ _ e h => by
  simp only [Value.agg.injEq, Array.mk.injEq, List.cons.injEq, Value.slice.injEq] at e
  rw [← e.2.1.1] at h; cases h
theorem Far.vec {w : World} {k : Value} {b m c : Nat} (hb : w.heap.size ≤ b) : Far w (.agg #[k, .slice (some ⟨b, 0, none⟩) m c]) := fun _ _ _ _ _ _ e h => by
  simp only [Value.agg.injEq, Array.mk.injEq, List.cons.injEq, Value.slice.injEq] at e
  rw [← e.2.1.1] at h
  simp only [Option.some.injEq, Addr.mk.injEq] at h
  omega
/-- a vector and an error are returned -/
def RetE (w : World) (n x : Nat) (err : Int) (e : Ending) (w' : World) : Prop := ∃ v, e = .returned (.tuple #[v, .int .i64 err]) ∧ VR w' v n x ∧ Below w.heap.size w w' ∧ Far w v
theorem VR.zero (w : World) : VR w (.agg #[.int .i64 0, .slice none 0 0]) 0 0 :=
  ⟨⟨none, 0, rfl, ⟨rfl, _, _, rfl, fun j u hj => by simp [wordsV, wcount] at hj⟩⟩, by decide, by decide⟩

set_option maxRecDepth 100000 in
set_option maxHeartbeats 2000000 in
theorem of_bad {w : World} {vl : Value} {l : List Bool} (hl : RO w vl 1 l.length (bools l)) (hm : l.length ≤ 9223372036854775807) (hb : l.length < 1 ∨ 128 < l.length) : Calls Try.prog 21 #[vl] w (RetE w 0 0 2) := by
  obtain ⟨p, c, rfl⟩ := hl.form
  have HG : Hid (∀ w, Calls Try.prog 44 #[.int .i64 l.length] w fun e w' => e = .returned (.bool false) ∧ w = w') := Lib.hid fun w => by
    have := good_any l.length w
    rwa [show (decide ((1 : Int) ≤ l.length) && decide ((l.length : Int) ≤ 128)) = false by simp; omega] at this
  clear hl hm hb
  go_enter Try.func21, Try.ntmps21
  go_wp2_with fail
  refine (HG.out _).mono ?_; rintro e w' ⟨rfl, rfl⟩
  go_wp2_with fail
  exact bodyPost_ret (v := .tuple #[.agg #[.int .i64 0, .slice none 0 0], .int .i64 2]) (by simp [results, Try.results21, go_sem]) rfl ⟨_, rfl, VR.zero _, Below.new _ _, Far.zero _ _⟩

set_option maxRecDepth 100000 in
set_option maxHeartbeats 4000000 in
theorem of_good {w : World} {vl : Value} {l : List Bool} (hl : RO w vl 1 l.length (bools l)) (h1 : 1 ≤ l.length) (h2 : l.length ≤ 128) : Calls Try.prog 21 #[vl] w (RetE w l.length (valB l) 0) := by
  obtain ⟨pl, cl, rfl⟩ := hl.form
  have HL := Lib.hid hl
  obtain ⟨n, hn⟩ : ∃ n, l.length = n := ⟨_, rfl⟩
  have HV : Hid (valB l = ofB (fun i => l.getD i false) n) := Lib.hid (by rw [← hn]; rfl)
  rw [hn] at h1 h2 hl HL ⊢
  have hni : (n : Int) ≤ 128 := by omega
  have hni1 : (1 : Int) ≤ n := by omega
  have HBl := Lib.hid (fun w => blank_any (w := w) n h2)
  have HG : Hid (∀ w, Calls Try.prog 44 #[.int .i64 n] w fun e w' => e = .returned (.bool true) ∧ w = w') := Lib.hid fun w => by
    have := good_any n w
    rwa [show (decide ((1 : Int) ≤ n) && decide ((n : Int) ≤ 128)) = true by simp; omega] at this
  have HN := Lib.hid hn
  clear hl h1 h2 hn
  go_enter Try.func21, Try.ntmps21
  go_wp2_with fail
  refine (HG.out _).mono ?_; rintro e w' ⟨rfl, rfl⟩
  go_wp2_with fail
  have k2 := Blk.new (w := w) 26 [.int .i64 0, .slice none 0 0]
  have hb3 := Below.new w (.cells #[.int .i64 0, .slice none 0 0] 26)
  generalize w.alloc (.cells #[.int .i64 0, .slice none 0 0] 26) = W at *
  have HK := Lib.hid (And.intro k2 hb3)
  clear k2 hb3
  refine (HBl.out _).mono ?_; rintro e w1 ⟨v, b, rfl, hV, hge, hb1⟩
  obtain rfl := hV.e
  have hS := Bld.start (w := w) (bs := [(w.heap.size, [.int .i64 0, .slice none 0 0])]) (by
    intro p hp
    simp only [List.mem_cons, List.not_mem_nil, or_false] at hp
    subst hp
    exact HK.out.1) HK.out.2 hb1 hV hge
  have hS2 := Lib.hid (hS.push [.int .i64 n, .slice (some ⟨b, 0, none⟩) (wcount n) (wcount n)])
  clear hV hb1 hS hge
  go_wp2_with fail
  generalize w1.alloc (.cells #[.int .i64 n, .slice (some ⟨b, 0, none⟩) (wcount n) (wcount n)] 26) = w2 at *
  generalize w1.heap.size = L at *
  go_loopw [17] (fun i wr => ∃ k : Nat, k ≤ n ∧ i = .int .i64 k ∧ Bld w [(L, [.int .i64 n, .slice (some ⟨b, 0, none⟩) (wcount n) (wcount n)]), (w.heap.size, [.int .i64 0, .slice none 0 0])] n (ofB (fun i => l.getD i false) k) b wr) (fun i _ => n - (intOf i).toNat)
  case atStart => exact ⟨0, Nat.zero_le _, rfl, hS2.out⟩
  case round =>
    obtain ⟨k, hk, rfl, hX⟩ := hrel
    have HX := Lib.hid hX
    have y0 := (hX.box (p := (L, [.int .i64 n, .slice (some ⟨b, 0, none⟩) (wcount n) (wcount n)])) (by simp)).cell (i := 0) rfl
    have y1 := (hX.box (p := (L, [.int .i64 n, .slice (some ⟨b, 0, none⟩) (wcount n) (wcount n)])) (by simp)).cell (i := 1) rfl
    dsimp only at y0 y1
    by_cases hlt : k < n
    · have hki : (k : Int) < n := by omega
      have hro := HL.out.below hX.bel
      have hkl : k < l.length := by rw [HN.out]; exact hlt
      obtain ⟨bl, ol, rfl⟩ := hro.sl (bools_at l k hkl)
      have f0 := hro.cell (bools_at l k hkl)
      have HST := Lib.hid (setB_ofB (fun i => l.getD i false) k)
      have HSet := set_any hX.vo k (l.getD k false) hlt
      generalize l.getD k false = q at *
      have HSet := Lib.hid HSet
      clear hX hro hkl
      go_wp2_with fail
      refine HSet.out.mono ?_; rintro e w6 ⟨rfl, hv6, hg6⟩
      have H6 := Lib.hid (HX.out.grown hg6 hv6)
      clear hv6 hg6
      go_wp2_with fail
      go_roundw
      case rel => exact ⟨k + 1, by omega, by go_num, by rw [← HST.out]; exact H6.out⟩
      case measure => simp [intOf]; omega
    · obtain rfl : k = n := by omega
      have kr := hX.box (p := (w.heap.size, [.int .i64 0, .slice none 0 0])) (by simp)
      have r0 := kr.cell (i := 0) rfl
      have r1 := kr.cell (i := 1) rfl
      have f0 := kr.frz 0
      have f1 := kr.frz 1
      dsimp only at r0 r1 f0 f1
      clear hX kr hlt
      go_wp2_with fail
      obtain ⟨e0, e1, hv, hbl⟩ := HX.out.ret (R := w.heap.size) (u := .int .i64 0) (v := .slice none 0 0) (by simp) (Nat.le_refl _)
      exact bodyPost_ret (v := .tuple #[vecO k b, .int .i64 0]) (by simp [results, Try.results21, go_sem, e0, e1, vecO]) rfl ⟨_, rfl, by rw [HV.out]; exact hv.vr (ofB_lt _ _), hbl, Far.vec HX.out.ge⟩
end Go.Proofs.Ytmimafbedbohiaa
