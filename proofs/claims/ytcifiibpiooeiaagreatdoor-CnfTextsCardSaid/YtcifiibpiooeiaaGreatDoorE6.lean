import Derived.Test.YtcifiibpiooeiaaGreatDoorE5
import Derived.Test.YtcifiibpiooeiaaGreatDoorC3
namespace Go.Proofs.YtcifiibpiooeiaaGreatDoor
set_option linter.unusedVariables false
open Go.RowKit Go.Sort

theorem addC_lenT (v : Nat) (cls : List (List Int)) (l : List Int) : (addC v cls l).1.length ≤ cls.length + 1 := by
  unfold addC
  split
  · simp
  · split
    · simp
    · split
      · simp
      · simp
theorem makeC_lenT (v : Nat) (ll : List (List Int)) : ∀ k, (makeC v ll k).length ≤ k
  | 0 => by simp [makeC]
  | k + 1 => by
    by_cases h : k < ll.length
    · rw [makeC_succ v ll k h]
      have h1 := addC_lenT v (makeC v ll k) ((ll.getD k []).take 30)
      have h2 := makeC_lenT v ll k
      omega
    · have : makeC v ll (k + 1) = makeC v ll k := by unfold makeC; rw [List.take_of_length_le (by omega), List.take_of_length_le (by omega)]
      rw [this]
      have := makeC_lenT v ll k
      omega
theorem makeAll_lenT (n : Int) (ll : List (List Int)) : (makeAll n ll).length ≤ 200 := by
  have h := makeC_lenT (makeV n) ll (min ll.length 200)
  unfold makeAll
  omega
theorem Nest.belowT {w w' : World} {sls : List (Option Addr × Nat × Nat)} {ll : List (List Int)} (h : Nest w sls ll) (hb : Below w.heap.size w w') : Nest w' sls ll :=
  ⟨h.1, fun i hi => ⟨(h.2 i hi).1, (h.2 i hi).2.1, (h.2 i hi).2.2.below hb⟩⟩

set_option maxRecDepth 100000 in
set_option maxHeartbeats 16000000 in
theorem texts_law {w : World} {pl : Option Addr} {cl : Nat} {sls : List (Option Addr × Nat × Nat)} {ll : List (List Int)} (n : Int) (hl : RO w (.slice pl ll.length cl) 1 ll.length (slvs sls)) (hn : Nest w sls ll) (hb : ll.length ≤ 9223372036854775807)
    (htab : Lib.TabIs Tryz.prog w "internal/strconv.uint64pow10" .u64 Lib.pow10Tab) (hmax : Max w) :
    Calls Tryz.prog 3 #[.int .i64 n, .slice pl ll.length cl] w fun e w' => e = .returned (.bool true) ∧ Below w.heap.size w w' := by
  obtain ⟨N, hN⟩ : ∃ N, ll.length = N := ⟨_, rfl⟩
  have HAw := Lib.hid (awake_any htab)
  have H := Lib.hid (And.intro hl (And.intro hn (And.intro hb (And.intro hN (And.intro (fun wr (h : Below w.heap.size w wr) => tab_below htab h) (fun wr (h : Below w.heap.size w wr) => hmax.below h))))))
  rw [hN]
  clear hl hn hb htab hN hmax
  go_enter Tryz.func3, Tryz.ntmps3
  go_wp2_with fail
  refine HAw.out.mono ?_
  rintro e w1 ⟨rfl, hb1⟩
  have hmk := make_any n (H.out.1.below hb1) (H.out.2.1.belowT hb1) H.out.2.2.1
  rw [H.out.2.2.2.1] at hmk
  have HMk := Lib.hid hmk
  have HB1 := Lib.hid hb1
  clear hmk hb1 HAw
  go_wp2_with fail
  refine HMk.out.mono ?_
  rintro e w2 ⟨bc, F, sv, rfl, hC, hR, hF, hb2⟩
  obtain ⟨ps, cs, ev⟩ := hR.form
  subst ev
  have hwf := makeAll_wf n ll
  have hlen : (makeAll n ll).length ≤ 200 := makeAll_lenT n ll
  generalize makeV n = v at *
  generalize makeAll n ll = cls at *
  obtain ⟨M, hM⟩ : ∃ M, cls.length = M := ⟨_, rfl⟩
  have hbo := Below.new w2 (.cells #[.int .i64 v, .slice ps cls.length cs] 26)
  have hBo : Blk (w2.alloc (.cells #[.int .i64 v, .slice ps cls.length cs] 26)) w2.heap.size 26 [.int .i64 v, .slice ps cls.length cs] := Blk.new _ _
  have hCo := hC.below hbo
  have hRo := hR.below hbo
  have hb02 := HB1.out.trans (hb2.mono HB1.out.size)
  have hbo2 := hb02.trans (hbo.mono hb02.size)
  rw [hM] at hbo hBo hCo hRo hbo2 ⊢
  have HM := Lib.hid hM
  clear hC hR hF hb2 hb02 hbo hM HMk
  obtain ⟨W, hW⟩ : ∃ W, w2.alloc (.cells #[.int .i64 v, .slice ps M cs] 26) = W := ⟨_, rfl⟩
  obtain ⟨g, hg⟩ : ∃ g, w2.heap.size = g := ⟨_, rfl⟩
  rw [hW, hg] at hBo
  rw [hW] at hCo hRo hbo2
  have htx := text_any hCo hwf (H.out.2.2.2.2.1 W hbo2)
  obtain ⟨S, hS⟩ : ∃ S : ByteArray, S = ⟨(textC v cls).toArray⟩ := ⟨_, rfl⟩
  rw [← hS] at htx
  have HX := Lib.hid (And.intro hCo (And.intro hRo (And.intro hwf (And.intro hBo (And.intro hbo2 (And.intro hlen (And.intro hS htx)))))))
  clear hwf hlen hBo hCo hRo hbo2 htx hS
  go_wp2_with fail
  clear hW hg
  refine HX.out.2.2.2.2.2.2.2.mono ?_
  rintro e w3 ⟨rfl, hb3⟩
  have hbW3 := HX.out.2.2.2.2.1.trans (hb3.mono HX.out.2.2.2.2.1.size)
  have hpa := parse_any HX.out.2.2.1 (by have := HX.out.2.2.2.2.2.1; omega) (H.out.2.2.2.2.2 w3 hbW3) (H.out.2.2.2.2.1 w3 hbW3)
  rw [← HX.out.2.2.2.2.2.2.1] at hpa
  have HP := Lib.hid (And.intro hpa (And.intro hb3 hbW3))
  clear hb3 hbW3 hpa
  go_wp2_with fail
  refine HP.out.1.mono ?_
  rintro e w4 ⟨bd, Fd, rfl, hCd, hFd, hb4⟩
  have hWb := Below.next HP.out.2.1 hb4
  have hB4 := HX.out.2.2.2.1.next hWb
  have c0 := hB4.cell (i := 0) rfl
  have c1 := hB4.cell (i := 1) rfl
  have hR4 := HX.out.2.1.below hWb
  have hrt := rtext_any hR4 HX.out.2.2.1 (by have := HX.out.2.2.2.2.2.1; omega)
  rw [← HX.out.2.2.2.2.2.2.1] at hrt
  have H4 := Lib.hid (And.intro hCd (And.intro hR4 (And.intro hrt (And.intro (HP.out.2.2.trans (hb4.mono HP.out.2.2.size)) hB4))))
  clear hCd hFd hb4 hWb hB4 hR4 hrt
  go_wp2_with fail
  refine H4.out.2.2.1.mono ?_
  rintro e w5 ⟨rfl, hb5⟩
  have hB5 := H4.out.2.2.2.2.next hb5
  have d0 := hB5.cell (i := 0) rfl
  have d1 := hB5.cell (i := 1) rfl
  have his := is_any (H4.out.1.below hb5) HX.out.2.2.1 (H4.out.2.1.below hb5)
  have H5 := Lib.hid (And.intro his (H4.out.2.2.2.1.trans (hb5.mono H4.out.2.2.2.1.size)))
  clear hb5 hB5 c0 c1 his
  go_wp2_with fail
  refine H5.out.1.mono ?_
  rintro e w6 ⟨rfl, hb6⟩
  have H6 := Lib.hid (H5.out.2.trans (hb6.mono H5.out.2.size))
  clear hb6
  go_wp2_with fail
  go_ret
  exact ⟨rfl, H6.out⟩
end Go.Proofs.YtcifiibpiooeiaaGreatDoor
