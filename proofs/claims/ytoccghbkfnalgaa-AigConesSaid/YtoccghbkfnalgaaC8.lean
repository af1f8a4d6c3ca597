import Derived.Test.YtoccghbkfnalgaaL5
import Derived.Deep.CutBlock
import Derived.Deep.CutRange
import Derived.Deep.DeepCutAuto
namespace Go.Proofs.Ytoccghbkfnalgaa
set_option linter.unusedVariables false
open Go.RowKit

/-- the lits that are picked -/
def rootsL (lits picks : List Int) (k : Nat) : List Int := if lits.length = 0 then [] else (picks.take k).map fun p : Int => lits.getD (p % (lits.length : Int)).toNat 0
theorem rootsL_le (lits picks : List Int) (k : Nat) : (rootsL lits picks k).length ≤ k := by unfold rootsL; split <;> simp; omega
theorem rootsL_lit {g : G} (lits picks : List Int) (hl : ∀ l ∈ lits, g.lit l) (k : Nat) : ∀ i, i < (rootsL lits picks k).length → g.lit ((rootsL lits picks k).getD i 0) := by
  intro i hi
  have hm : (rootsL lits picks k).getD i 0 ∈ rootsL lits picks k := by
    rw [List.getD, List.getElem?_eq_getElem hi]; exact List.getElem_mem _
  generalize (rootsL lits picks k).getD i 0 = x at hm
  unfold rootsL at hm
  split at hm
  · simp at hm
  · rename_i hne
    simp only [List.mem_map] at hm
    obtain ⟨p, _, rfl⟩ := hm
    have h0 : 0 ≤ p % (lits.length : Int) := Int.emod_nonneg _ (by omega)
    have h1 : p % (lits.length : Int) < lits.length := Int.emod_lt_of_pos _ (by omega)
    apply hl
    rw [List.getD, List.getElem?_eq_getElem (by omega)]; exact List.getElem_mem _
theorem rootsL_succ (lits picks : List Int) (k : Nat) (hk : k < picks.length) (hn : lits.length ≠ 0) : rootsL lits picks (k + 1) = rootsL lits picks k ++ [lits.getD (picks.getD k 0 % (lits.length : Int)).toNat 0] := by
  unfold rootsL
  rw [if_neg hn, if_neg hn, List.take_succ_eq_append_getElem hk, List.map_append]
  simp [List.getD, List.getElem?_eq_getElem hk]

set_option maxRecDepth 100000 in
set_option maxHeartbeats 8000000 in
theorem cones_any (w : World) (va vp vin : Value) (acts : List Actn) (picks : List Int) (ins : List Bool) (ha : RO w va 4 acts.length (actCells acts)) (hp : RO w vp 1 picks.length (ints picks)) (hv : RO w vin 1 ins.length (bools ins))
    (hal : acts.length ≤ 9223372036854775807) (hpl0 : picks.length ≤ 9223372036854775807) (hins : ins.length ≤ 140737488355328) :
    Calls Try.prog 6 #[va, vp, vin] w fun e w' => e = .returned (.bool true) ∧ Below w.heap.size w w' := by
  have HA := Lib.hid (awake_any w)
  obtain ⟨pp, cp, rfl⟩ := hp.form
  obtain ⟨pin, cin, rfl⟩ := hv.form
  have H := Lib.hid (And.intro ha (And.intro hp (And.intro hv (And.intro hal hins))))
  clear ha hp hv hal hins
  go_enter Try.func6, Try.ntmps6
  go_wp2_with fail
  refine HA.out.mono ?_
  rintro e w1 ⟨rfl, hb1⟩
  have K1 := Lib.hid hb1
  clear hb1
  go_wp2_with fail
  refine (plain_any w1 va acts (H.out.1.below K1.out) H.out.2.2.2.1).mono ?_
  rintro e w2 ⟨vq, rfl, hq, hb2⟩
  have K2 := Lib.hid (And.intro hq (Below.then K1.out hb2 (Nat.le_refl _)))
  have hpl := Lib.hid (plain_len acts)
  have hpk := Lib.hid (plain_kinds acts)
  clear hq hb2
  generalize plainActs acts = P at *
  go_wp2_with fail
  refine (build_any w2 vq P K2.out.1 (by have := hpl.out; omega) hpk.out).mono ?_
  rintro e w3 ⟨bg, F, vl, rfl, hG3, hl3, hf3, hF3, hb3⟩
  have hwf := build_wf P P.length
  have hidx := build_idx P P.length
  have hinv := build_inv P P.length
  have hlen : (buildTo P P.length).1.nodes.length ≤ 200 := by have := hinv.hi; have := hpl.out; omega
  have hil : (buildTo P P.length).1.inputs.length ≤ 200 := by have := hinv.il; have := hpl.out; omega
  have hll := hinv.len
  have hlit := hinv.lit
  have hl3' : w3.ownsRow w2.heap.size 3 1 vl (buildTo P P.length).2.length (ints (buildTo P P.length).2) := by rw [hll]; exact hl3
  have hl60 : (buildTo P P.length).2.length ≤ 60 := by have := hpl.out; omega
  have hnb : ∀ k, k < (buildTo P P.length).1.nodes.length → ((buildTo P P.length).1.nodes.getD k (0, 0)).1 ≠ -1 → ((buildTo P P.length).1.nodes.getD k (0, 0)).1 < 2^62 ∧ ((buildTo P P.length).1.nodes.getD k (0, 0)).2 < 2^62 := nodes_small P (by have := hpl.out; omega)
  clear hl3 hll
  generalize (buildTo P P.length).1 = g at *
  generalize (buildTo P P.length).2 = lits at *
  have HW := Lib.hid (And.intro hwf (And.intro hidx (And.intro hlen (And.intro hil (And.intro hlit hnb)))))
  have hl60' : (lits.length : Int) ≤ 60 := by omega
  have hln : (g.nodes.length : Int) ≤ 200 := by omega
  have hpos : (0 : Int) < g.nodes.length := by have := hwf.pos; omega
  have hrl := RO.own hl3'
  obtain ⟨pl, cl, rfl⟩ := hrl.form
  have K3 := Lib.hid (And.intro hG3 (And.intro hrl (Below.then K2.out.2 hb3 (Nat.le_refl _))))
  clear hG3 hl3' hf3 hF3 hb3 hwf hidx hinv hlen hil hlit hrl hnb
  go_upto_block 0 with fail
  go_cut [10] (fun v wx => ∃ R : List Int, R.length ≤ 6 ∧ (∀ i, i < R.length → g.lit (R.getD i 0)) ∧ RO wx v 1 R.length (ints R) ∧ Below w3.heap.size w3 wx)
  case first =>
    go_wp2_with fail
    generalize hB3 : w3.heap.size = B at *
    go_loopw [10, 11] (fun v i wr => ∃ k : Nat, k ≤ picks.length ∧ k ≤ 6 ∧ i = .int .i64 k ∧ wr.ownsRow B 3 1 v (rootsL lits picks k).length (ints (rootsL lits picks k)) ∧ Below B w3 wr) (fun _ i _ => 6 - (intOf i).toNat)
    case atStart => exact ⟨0, Nat.zero_le _, Nat.zero_le _, rfl, by have : rootsL lits picks 0 = [] := by simp [rootsL]
                                                                    rw [this]; exact World.ownsRow_nil _ _ _ _, Below.refl _ _⟩
    case round =>
      obtain ⟨k, hk, hk6, rfl, hown, hbel⟩ := hrel
      have HR := Lib.hid (And.intro hown hbel)
      have hBw : B ≤ wr.heap.size := hB3 ▸ hbel.size
      by_cases hlt : k < picks.length
      · by_cases h6 : k < 6
        · have hbw : Below w.heap.size w wr := Below.then K3.out.2.2 (hB3.symm ▸ hbel) (Nat.le_refl _)
          obtain ⟨bp, op, rfl⟩ := H.out.2.1.sl (ints_at picks k hlt)
          have hcp := (H.out.2.1.below hbw).cell (ints_at picks k hlt)
          have hsucc := rootsL_succ lits picks k hlt
          have hrle := rootsL_le lits picks k
          have HO := Lib.hid (operand_any lits.length (picks.getD k 0) wr (by omega))
          generalize picks.getD k 0 = p at *
          by_cases hz : lits.length = 0
          · have hpk0 : pick lits.length p = -1 := by rw [pick, if_pos hz]
            rw [hpk0] at HO
            have hsame : rootsL lits picks (k + 1) = rootsL lits picks k := by unfold rootsL; rw [if_pos hz, if_pos hz]
            have HS := Lib.hid hsame
            clear hown hbel hbw hpk0 hsame hsucc hz
            go_wp2_with fail
            refine HO.out.mono ?_; rintro e w' ⟨rfl, rfl⟩
            go_wp2_with fail
            go_roundw
            case rel => exact ⟨k + 1, by omega, by omega, by go_num, by rw [HS.out]; exact HR.out.1, HR.out.2⟩
            case measure => simp [intOf]; omega
          · have hpk0 : pick lits.length p = p % lits.length := by rw [pick, if_neg hz]
            rw [hpk0] at HO
            have h0 : 0 ≤ p % (lits.length : Int) := Int.emod_nonneg _ (by omega)
            have h1 : p % (lits.length : Int) < lits.length := Int.emod_lt_of_pos _ (by omega)
            obtain ⟨bl, ol, rfl⟩ := K3.out.2.1.sl (ints_at lits (p % (lits.length : Int)).toNat (by omega))
            have hcl := (K3.out.2.1.below (hB3.symm ▸ hbel)).cell (ints_at lits (p % (lits.length : Int)).toNat (by omega))
            have HS := Lib.hid (hsucc hz)
            generalize lits.getD (p % (lits.length : Int)).toNat 0 = L at *
            generalize p % (lits.length : Int) = q at *
            clear hown hbel hbw hpk0 hsucc hz
            go_wp2_with fail
            refine HO.out.mono ?_; rintro e w' ⟨rfl, rfl⟩
            go_wp2_with (at_builtin; go_must ((refine wpList_app rfl _ _ 25 rfl Try.T25 B _ _ _ rfl (HR.out.1.alloc (Obj.cells #[Value.int IntKind.i64 L] 3)) _ 1 1 [_] rfl _ (new_at _ _ _ rfl) rfl rfl (by simp [Value.oneCell']) Nat.one_pos (by omega) (by omega) (by simp only [World.size_alloc]; omega) ?_); intro gk cap w4 happ; have HP := Lib.hid happ; clear happ))
            go_roundw
            case rel =>
              refine ⟨k + 1, by omega, by omega, by go_num, ?_, HP.out.below (HR.out.2.alloc hBw _) (by simp only [World.size_alloc]; omega) (fun k hk => (HR.out.1.lt k hk).1)⟩
              rw [HS.out, ints_snoc, List.length_append]
              exact HP.out.own
            case measure => simp [intOf]; omega
        · have h6' : (6 : Int) ≤ k := by omega
          clear hown hbel h6
          go_wp2_with fail
          go_meet
          exact ⟨_, by have := rootsL_le lits picks k; omega, rootsL_lit lits picks HW.out.2.2.2.2.1 k, RO.own HR.out.1, hB3 ▸ HR.out.2⟩
      · have h6' : (picks.length : Int) ≤ k := by omega
        clear hown hbel hlt
        go_wp2_with fail
        go_meet
        exact ⟨_, by have := rootsL_le lits picks k; omega, rootsL_lit lits picks HW.out.2.2.2.2.1 k, RO.own HR.out.1, hB3 ▸ HR.out.2⟩
  case rest =>
    obtain ⟨R, hRl, hRg, hRo, hRb⟩ := hcut
    obtain ⟨pr, cr, rfl⟩ := hRo.form
    have hbc : Below w.heap.size w wc := Below.then K3.out.2.2 hRb (Nat.le_refl _)
    have K4 := Lib.hid (And.intro (K3.out.1.below hRb) (And.intro hRo (And.intro (H.out.2.2.1.below hbc) hbc)))
    have hRli : (R.length : Int) ≤ 6 := by omega
    have HRR := Lib.hid (And.intro hRl hRg)
    have Hins := Lib.hid H.out.2.2.2.2
    clear hRo hRb hbc hRg hRl HA H K1 K2 K3 hpl hpk hpl0 hl60 hl60'
    have Hbs : Hid (∀ W : World, Blk (W.alloc (.cells #[] 3)) W.heap.size 3 []) := Lib.hid fun W => Blk.new 3 []
    go_wp2_with (at_builtin; go_must (refine wpList_appR rfl _ _ 25 rfl Try.T25 wc.heap.size _ 0 [] rfl ((Hbs.out wc).own (by simp) (Nat.zero_le _) _ (Nat.le_refl _)) (Value.slice pr R.length cr) R.length (ints R) rfl (K4.out.2.1.below ((Below.refl _ _).alloc (Nat.le_refl _) _)) (ints_one R) (by omega) (by omega) (by simp) ?_); intro v4 w4 happ; have HP := Lib.hid happ; clear happ)
    have hA4 : Below wc.heap.size wc w4 := HP.out.below ((Below.refl _ _).alloc (Nat.le_refl _) _) (by simp) (fun k hk => by have h : some wc.heap.size = some k := hk; simp at h; omega)
    have hown4 := HP.out.own
    simp only [Nat.zero_add, List.nil_append] at hown4
    have K5 := Lib.hid (And.intro hA4 (And.intro hown4 (K4.out.1.below hA4)))
    clear hA4 hown4 HP
    refine (len_has K5.out.2.2).mono ?_; rintro e w' ⟨rfl, rfl⟩
    go_wp2_with (at_builtin; go_must (refine wpList_app rfl _ _ 25 rfl Try.T25 wc.heap.size _ _ _ rfl (K5.out.2.1.alloc (Obj.cells #[Value.int IntKind.i64 (-5), Value.int IntKind.i64 (2 * (g.nodes.length : Int))] 3)) _ 2 2 [_, _] rfl _ (new_at _ _ _ rfl) rfl rfl (by simp [Value.oneCell']) (by decide) (by omega) (by omega) (by simp only [World.size_alloc]; exact Nat.le_trans K5.out.1.size (Nat.le_succ _)) ?_); intro g5 cap5 w5 happ; have HP := Lib.hid happ; clear happ)
    have hA5 : Below wc.heap.size wc w5 := HP.out.below (K5.out.1.alloc K5.out.1.size _) (by simp only [World.size_alloc]; exact Nat.le_trans K5.out.1.size (Nat.le_succ _)) (fun k hk => (K5.out.2.1.lt k hk).1)
    have hown5 := RO.own HP.out.own
    have hown5' : RO w5 (Value.slice (some ⟨g5, 0, none⟩) (R.length + 2) cap5) 1 (R ++ [-5, 2 * (g.nodes.length : Int)]).length (ints (R ++ [-5, 2 * (g.nodes.length : Int)])) := by
      have e1 : ints (R ++ [-5, 2 * (g.nodes.length : Int)]) = ints R ++ [.int .i64 (-5), .int .i64 (2 * (g.nodes.length : Int))] := by simp [ints]
      have e2 : (R ++ [-5, 2 * (g.nodes.length : Int)]).length = R.length + 2 := by simp
      rw [e1, e2]; exact hown5
    have hlb : ∀ k, k < (R ++ [-5, 2 * (g.nodes.length : Int)]).length → (R ++ [-5, 2 * (g.nodes.length : Int)]).getD k 0 < 2^62 := by
      have hx : ∀ x ∈ R ++ [-5, 2 * (g.nodes.length : Int)], x < 2^62 := by
        intro x hx
        rw [List.mem_append] at hx
        rcases hx with hx | hx
        · obtain ⟨i, hi, e⟩ := List.getElem_of_mem hx
          have := (HRR.out.2 i hi).2
          rw [List.getD, List.getElem?_eq_getElem hi] at this
          simp only [Option.getD_some] at this; omega
        · simp only [List.mem_cons, List.not_mem_nil, or_false] at hx; omega
      intro k hk
      rw [List.getD, List.getElem?_eq_getElem hk]; exact hx _ (List.getElem_mem _)
    have hcone := cone_any w5 bg F g _ _ (K4.out.1.below hA5) HW.out.1 (by have := HW.out.2.2.1; omega) hown5' (by simp; have := HRR.out.1; omega) hlb
    rw [gCone_bad g R _ _ (fun h => by have := h.1; omega) (fun h => by have := h.2; omega)] at hcone
    have hcl := HW.out.1
    have hok := cone_ok hcl R
    have hLl := gCone_len g R
    have hroots : ∀ i, i < R.length → inCone g (rootsTo g R R.length) (R.getD i 0 / 2).toNat = true := fun i hi => inCone_roots _ _ _ (rootsTo_has g R i hi (HRR.out.2 i hi))
    have hinall := fun m hm h0 => inTo_all hcl hok m hm h0
    generalize gCone g R = L at *
    have HC := Lib.hid (And.intro hok (And.intro hroots hinall))
    have K5 := Lib.hid hA5
    clear hown5 hown5' hlb HP hcl hok hroots hinall hA5
    refine hcone.mono ?_
    clear hcone
    rintro e w6 ⟨v13, rfl, hro6, hb6⟩
    obtain ⟨pL, cL, rfl⟩ := hro6.form
    have hLi : (L.length : Int) < 200 := by omega
    have hA6 : Below wc.heap.size wc w6 := Below.then K5.out hb6 (Nat.le_refl _)
    have K6 := Lib.hid (And.intro (K4.out.1.below hA6) (And.intro (K4.out.2.1.below hA6) (And.intro (K4.out.2.2.1.below hA6) (And.intro hro6 (Below.then K4.out.2.2.2 hA6 (Nat.le_refl _))))))
    clear hro6 hb6 hA6 hLl K4 K5
    go_wp2_with fail
    refine (len_has K6.out.1).mono ?_; rintro e w' ⟨rfl, rfl⟩
    have hmk := mk_bis g.nodes.length (by omega)
    go_wp2_with fail
    generalize hB : w6.heap.size = B at *
    go_loopw [88] (fun i wr => ∃ k : Nat, k ≤ L.length ∧ i = .int .i64 k ∧ Blk wr B 3 (bis (inTo L g.nodes.length k)) ∧ Below B w6 wr) (fun i _ => L.length - (intOf i).toNat)
    case atStart => exact ⟨0, Nat.zero_le _, rfl, hB ▸ Blk.new _ _, hB ▸ (Below.refl _ _).alloc (Nat.le_refl _) _⟩
    case round =>
      obtain ⟨k, hk, rfl, hblk, hbel⟩ := hrel
      have HR := Lib.hid (And.intro hblk hbel)
      by_cases hlt : k < L.length
      · skip
        obtain ⟨n, hX, h0, hn, hc⟩ := HC.out.1.get k hlt
        obtain ⟨bL, oL, rfl⟩ := K6.out.2.2.2.1.sl (ints_at L k hlt)
        have hcx := (K6.out.2.2.2.1.below (hB ▸ hbel)).cell (ints_at L k hlt)
        rw [hX] at hcx
        have hGr := K6.out.1.below (hB ▸ hbel)
        have HG := Lib.hid (len_has hGr)
        have hfr := hblk.frz n
        have hcn := hblk.cell (bis_at (inTo L g.nodes.length k) n (by rw [inTo_length]; omega) _ rfl)
        have hsucc := inTo_succ L g.nodes.length k
        rw [hX, Int.toNat_natCast] at hsucc
        have h1i : (1 : Int) ≤ n := by omega
        have hni : (n : Int) < g.nodes.length := by omega
        have HN := Lib.hid (And.intro hsucc (And.intro h0 (And.intro hn hX)))
        by_cases hk0 : k = 0
        · have hk0i : (k : Int) ≤ 0 := by omega
          clear hblk hbel hX h0 hn hc hsucc hGr hk0
          go_wp2_with fail
          refine HG.out.mono ?_; rintro e w' ⟨rfl, rfl⟩
          go_wp2_with fail
          go_roundw
          case rel =>
            refine ⟨k + 1, by omega, by go_num, ?_, HR.out.2.setCell (Nat.le_refl _) _⟩
            rw [HN.out.1, ← bis_set]
            exact HR.out.1.set _ _
          case measure => simp [intOf]; omega
        · have hk0i : (0 : Int) < k := by omega
          have hlt2 := HC.out.1.lt (k - 1) (by omega)
          rw [Nat.sub_add_cancel (by omega), hX] at hlt2
          have hcy := (K6.out.2.2.2.1.below (hB ▸ hbel)).cell (ints_at L (k - 1) (by omega))
          generalize L.getD (k - 1) 0 = Y at *
          clear hblk hbel hX h0 hn hc hsucc hGr hk0
          go_wp2_with fail
          refine HG.out.mono ?_; rintro e w' ⟨rfl, rfl⟩
          go_wp2_with fail
          go_roundw
          case rel =>
            refine ⟨k + 1, by omega, by go_num, ?_, HR.out.2.setCell (Nat.le_refl _) _⟩
            rw [HN.out.1, ← bis_set]
            exact HR.out.1.set _ _
          case measure => simp [intOf]; omega
      · skip
        obtain rfl : k = L.length := by omega
        clear hblk hbel
        generalize hI : inTo L g.nodes.length L.length = I at *
        have hIl : I.length = g.nodes.length := by rw [← hI, inTo_length]
        have HI := Lib.hid (And.intro hIl (fun m hm h0 => HC.out.2.2 m hm h0))
        clear hI hIl
        have hbw7 : Below w6.heap.size w6 wr := hB.symm ▸ HR.out.2
        have K7 := Lib.hid (And.intro (K6.out.1.below hbw7) (And.intro (K6.out.2.1.below hbw7) (And.intro (K6.out.2.2.1.below hbw7) (And.intro HR.out.1 (Below.then K6.out.2.2.2.2 hbw7 (Nat.le_refl _))))))
        have hBlt : B < wr.heap.size := HR.out.1.lt
        clear hbw7 HR K6 hmk
        generalize wr = w7 at *
        clear hk hlt
        go_wp2_with fail
        go_loop [120] (fun i => ∃ k : Nat, k ≤ R.length ∧ i = .int .i64 k) (fun i => R.length - (intOf i).toNat)
        case atStart => exact ⟨0, Nat.zero_le _, rfl⟩
        case round =>
          obtain ⟨k, hk, rfl⟩ := hrel
          by_cases hlt : k < R.length
          · skip
            obtain ⟨bR, oR, rfl⟩ := K7.out.2.1.sl (ints_at R k hlt)
            have hcx := K7.out.2.1.cell (ints_at R k hlt)
            have hg := HRR.out.2 k hlt
            have hr := HC.out.2.1 k hlt
            generalize R.getD k 0 = X at *
            have hX0 : 0 ≤ X := hg.1
            have hX1 : X / 2 < (g.nodes.length : Int) := hg.2
            by_cases h1 : 1 < X
            · have hci : w7.cell? ⟨B, (X / 2).toNat, none⟩ = some (.int .i64 1) := K7.out.2.2.2.1.cell (bis_at I _ (by rw [HI.out.1]; omega) true ((HI.out.2 _ (by omega) (by omega)).trans hr))
              clear hg hr
              go_wp2_with fail
              go_round
              case rel => exact ⟨k + 1, by omega, by go_num⟩
              case measure => simp [intOf]; omega
            · have h1' : X ≤ 1 := by omega
              clear hg hr h1
              go_wp2_with fail
              go_round
              case rel => exact ⟨k + 1, by omega, by go_num⟩
              case measure => simp [intOf]; omega
          · skip
            have hle : (R.length : Int) ≤ k := by omega
            clear hlt
            go_wp2_with fail
            refine (len_has K7.out.1).mono ?_; rintro e w' ⟨rfl, rfl⟩
            have hmk := mk_bis g.nodes.length (by omega)
            go_wp2_with fail
            clear hle hk
            generalize hB8 : w7.heap.size = B8 at *
            go_loopw [140] (fun i wr => ∃ k : Nat, k ≤ R.length ∧ i = .int .i64 k ∧ Blk wr B8 3 (bis (rootsTo g R k)) ∧ Below B8 w7 wr) (fun i _ => R.length - (intOf i).toNat)
            case atStart => exact ⟨0, Nat.zero_le _, rfl, hB8 ▸ Blk.new _ _, hB8 ▸ (Below.refl _ _).alloc (Nat.le_refl _) _⟩
            case round =>
              obtain ⟨k, hk, rfl, hblk, hbel⟩ := hrel
              have HR := Lib.hid (And.intro hblk hbel)
              by_cases hlt : k < R.length
              · skip
                obtain ⟨bR, oR, rfl⟩ := K7.out.2.1.sl (ints_at R k hlt)
                have hcx := (K7.out.2.1.below (hB8 ▸ hbel)).cell (ints_at R k hlt)
                have hg := HRR.out.2 k hlt
                have hsucc := rootsTo_succ g R k
                have hrl := rootsTo_length g R k
                generalize R.getD k 0 = X at *
                have hX0 : 0 ≤ X := hg.1
                have hX1 : X / 2 < (g.nodes.length : Int) := hg.2
                rw [if_pos ⟨hX0, hX1⟩] at hsucc
                have hfr := hblk.frz (X / 2).toNat
                have hcn := hblk.cell (bis_at (rootsTo g R k) (X / 2).toNat (by omega) _ rfl)
                have HS := Lib.hid hsucc
                clear hg hsucc hrl hblk hbel
                go_wp2_with fail
                go_roundw
                case rel =>
                  refine ⟨k + 1, by omega, by go_num, ?_, HR.out.2.setCell (Nat.le_refl _) _⟩
                  rw [HS.out, ← bis_set]
                  exact HR.out.1.set _ _
                case measure => simp [intOf]; omega
              · skip
                obtain rfl : k = R.length := by omega
                clear hblk hbel hlt hk
                generalize hS0 : rootsTo g R R.length = S0 at *
                have hS0l : S0.length = g.nodes.length := by rw [← hS0, rootsTo_length]
                have HS0 := Lib.hid (And.intro hS0 hS0l)
                have HR0 := Lib.hid HR.out
                clear hS0 hS0l HR
                generalize wr = w8 at *
                go_wp2_with fail
                refine (len_has (K7.out.1.below (hB8 ▸ HR0.out.2))).mono ?_; rintro e w' ⟨rfl, rfl⟩
                go_wp2_with fail
                go_loopw [22] (fun i wr => ∃ j : Nat, j ≤ g.nodes.length - 1 ∧ i = .int .i64 ((g.nodes.length : Int) - 1 - j) ∧ Blk wr B8 3 (bis (coneTo g S0 j)) ∧ Below B8 w7 wr) (fun i _ => (intOf i).toNat)
                case atStart => exact ⟨0, Nat.zero_le _, by go_num, HR0.out.1, HR0.out.2⟩
                case round =>
                  obtain ⟨j, hj, rfl, hblk, hbel⟩ := hrel
                  have HR := Lib.hid (And.intro hblk hbel)
                  obtain ⟨n, hn, hn2⟩ : ∃ n : Nat, (g.nodes.length : Int) - 1 - j = n ∧ n = g.nodes.length - 1 - j := ⟨g.nodes.length - 1 - j, by omega, rfl⟩
                  rw [hn]
                  by_cases hlt : j < g.nodes.length - 1
                  · skip
                    have hn0 : (0 : Int) < n := by omega
                    have hnl : (n : Int) < g.nodes.length := by omega
                    have hSl : (coneTo g S0 j).length = g.nodes.length := by rw [coneTo_length]; exact HS0.out.2
                    have hat := inCone_at HW.out.1 S0 j hlt
                    have hin := HI.out.2 n (by omega) (by omega)
                    have hsucc := coneTo_succ g S0 j
                    rw [← hn2] at hat hsucc
                    obtain ⟨b, hb⟩ : ∃ b, inCone g S0 n = b := ⟨_, rfl⟩
                    have hgb : Below w7.heap.size w7 wr := hB8 ▸ hbel
                    have hcu : wr.cell? ⟨B8, n, none⟩ = some (.int .i64 (b2i b)) := hblk.cell (bis_at (coneTo g S0 j) n (by omega) b (hat.trans hb))
                    have hbi := (K7.out.2.2.2.1.below hgb (hB8 ▸ hBlt))
                    have hci : wr.cell? ⟨B, n, none⟩ = some (.int .i64 (b2i b)) := hbi.cell (bis_at I n (by rw [HI.out.1]; omega) b (hin.trans hb))
                    obtain ⟨P1, P2, hP⟩ : ∃ a b, g.nodes.getD n (0, 0) = (a, b) := ⟨_, _, rfl⟩
                    have hnode := HW.out.1.node n (by omega)
                    have hkids := inCone_kids HW.out.1 S0 HS0.out.2 n (by omega) (by omega)
                    rw [hP] at hnode hkids
                    dsimp only at hnode hkids
                    have hGr := K7.out.1.below hgb
                    have hstep : coneTo g S0 (j + 1) = if b = true ∧ P1 ≠ -1 then ((coneTo g S0 j).set (P1 / 2).toNat true).set (P2 / 2).toNat true else coneTo g S0 j := by rw [hsucc, coneStep, hat, hb, hP]
                    have hback : (g.nodes.length : Int) - 1 - ((j + 1 : Nat) : Int) = n - 1 := by omega
                    have HN := Lib.hid (And.intro hstep (And.intro hback hSl))
                    have HN2 := Lib.hid hn2
                    have hBB : B ≠ B8 := by omega
                    clear hsucc hstep hat hin hback hSl hn hn2
                    by_cases hP1 : P1 = -1
                    · subst hP1
                      have HF := Lib.hid (fan_in hGr n (by omega) (by omega) P2 hP)
                      have he : coneTo g S0 (j + 1) = coneTo g S0 j := by rw [HN.out.1, if_neg (fun h => h.2 rfl)]
                      have HE := Lib.hid he
                      clear hP hnode hkids hGr he hblk hbel hgb hbi hb
                      go_wp2_with fail
                      refine HF.out.mono ?_; rintro e w' ⟨rfl, rfl⟩
                      cases b
                      all_goals
                        go_wp2_with fail
                        go_quiet (fail)
                        go_wp2_with fail
                        go_roundw
                        case rel => exact ⟨j + 1, by omega, by rw [HN.out.2.1], by rw [HE.out]; exact HR.out.1, HR.out.2.trans (below_drewN _)⟩
                        case measure => simp [intOf]; omega
                    · obtain ⟨nq, e1, e2⟩ : ∃ a : Nat, P1 = P1 ∧ a = a := ⟨0, rfl, rfl⟩
                      clear nq e1 e2
                      have HF := Lib.hid (fan_and hGr n (by omega) (by omega) P1 P2 hP hP1)
                      obtain ⟨q1, q2, q3, q4⟩ := hnode hP1
                      have r0 : 0 ≤ P1 := by omega
                      have r1 : 0 ≤ P2 := by omega
                      have r2 : P1 / 2 < (g.nodes.length : Int) := by omega
                      have r3 : P2 / 2 < (g.nodes.length : Int) := by omega
                      have r4 : (P1 / 2).toNat ≠ (P2 / 2).toNat := by unfold tnot at q4; split at q4 <;> omega
                      have r5 : 0 ≤ P1 / 2 := by omega
                      have r6 : 0 ≤ P2 / 2 := by omega
                      have HP1 := Lib.hid hP1
                      cases b
                      · change wr.cell? ⟨B8, n, none⟩ = some (.int .i64 0) at hcu
                        change wr.cell? ⟨B, n, none⟩ = some (.int .i64 0) at hci
                        have he : coneTo g S0 (j + 1) = coneTo g S0 j := by rw [HN.out.1, if_neg (fun h => nomatch h.1)]
                        have HE := Lib.hid he
                        clear hP hnode hkids hGr he hblk hbel hgb hbi hb hP1 q1 q2 q3 q4
                        go_wp2_with fail
                        refine HF.out.mono ?_; rintro e w' ⟨d, rfl, rfl⟩
                        go_wp2_with fail
                        go_quiet (fail)
                        go_wp2_with fail
                        go_roundw
                        case rel => exact ⟨j + 1, by omega, by rw [HN.out.2.1], by rw [HE.out]; exact HR.out.1, HR.out.2.trans (below_drewN _)⟩
                        case measure => simp [intOf]; omega
                      · change wr.cell? ⟨B8, n, none⟩ = some (.int .i64 1) at hcu
                        change wr.cell? ⟨B, n, none⟩ = some (.int .i64 1) at hci
                        obtain ⟨k1, k2⟩ := hkids hb hP1
                        have hc1 : wr.cell? ⟨B, (P1 / 2).toNat, none⟩ = some (.int .i64 1) := hbi.cell (bis_at I _ (by rw [HI.out.1]; omega) true ((HI.out.2 _ (by omega) (by omega)).trans k1))
                        have hc2 : wr.cell? ⟨B, (P2 / 2).toNat, none⟩ = some (.int .i64 1) := hbi.cell (bis_at I _ (by rw [HI.out.1]; omega) true ((HI.out.2 _ (by omega) (by omega)).trans k2))
                        have he : coneTo g S0 (j + 1) = ((coneTo g S0 j).set (P1 / 2).toNat true).set (P2 / 2).toNat true := by rw [HN.out.1, if_pos ⟨rfl, hP1⟩]
                        have HE := Lib.hid he
                        have hf1 := hblk.frz (P1 / 2).toNat
                        have hf2 := hblk.frz (P2 / 2).toNat
                        have hu1 := hblk.cell (bis_at (coneTo g S0 j) (P1 / 2).toNat (by rw [HN.out.2.2]; omega) _ rfl)
                        have hu2 := hblk.cell (bis_at (coneTo g S0 j) (P2 / 2).toNat (by rw [HN.out.2.2]; omega) _ rfl)
                        clear hP hnode hkids hGr he hblk hbel hgb hbi hb hP1 q1 q2 q3 q4 k1 k2
                        go_wp2_with fail
                        refine HF.out.mono ?_; rintro e w' ⟨d, rfl, rfl⟩
                        go_wp2_with fail
                        go_quiet (fail)
                        go_wp2_with fail
                        go_roundw
                        case rel =>
                          refine ⟨j + 1, by omega, by rw [HN.out.2.1], ?_, ?_⟩
                          · rw [HE.out, ← bis_set, ← bis_set]; exact (HR.out.1.set _ _).set _ _
                          · exact ((HR.out.2.trans (below_drewN _)).setCell (Nat.le_refl _) _).setCell (Nat.le_refl _) _
                        case measure => simp [intOf]; omega
                  · skip
                    have hn0 : (n : Int) ≤ 0 := by omega
                    have hgb : Below w7.heap.size w7 wr := hB8 ▸ hbel
                    have K9 := Lib.hid (And.intro (K7.out.1.below hgb) (And.intro (K7.out.2.1.below hgb) (And.intro (K7.out.2.2.1.below hgb) (And.intro (K7.out.2.2.2.1.below hgb (hB8 ▸ hBlt)) (Below.then K7.out.2.2.2.2 hgb (Nat.le_refl _))))))
                    clear hgb hblk hbel hn hn2 hlt HR HR0 K7 hmk
                    generalize wr = w9 at *
                    have E1 := Lib.hid (eval_any w9 bg F g _ ins K9.out.1 (by have := HW.out.2.2.1; omega) K9.out.2.2.1 (by have := HW.out.2.2.2.1; omega) (by have := Hins.out; omega) (fun k hk => by have := HW.out.1.inp k hk; omega) HW.out.2.2.2.2.2)
                    go_wp2_with fail
                    refine E1.out.mono ?_
                    rintro e w10 ⟨v26, rfl, hro, hb⟩
                    obtain ⟨p26, c26, rfl⟩ := hro.form
                    have K10 := Lib.hid (And.intro (K9.out.1.below hb) (And.intro (K9.out.2.1.below hb) (And.intro (K9.out.2.2.1.below hb) (And.intro (K9.out.2.2.2.1.below hb K9.out.2.2.2.1.lt) (And.intro hro (Below.then K9.out.2.2.2.2 hb (Nat.le_refl _)))))))
                    clear hro hb E1 K9
                    have Hbs : Hid (∀ W : World, Blk (W.alloc (.cells #[] 4)) W.heap.size 4 []) := Lib.hid fun W => Blk.new 4 []
                    go_wp2_with (at_builtin; go_must (refine wpList_appR rfl _ _ 40 rfl Try.T40 w10.heap.size _ 0 [] rfl ((Hbs.out w10).own (by simp) (Nat.zero_le _) _ (Nat.le_refl _)) (Value.slice pin ins.length cin) ins.length (bools ins) rfl (K10.out.2.2.1.below ((Below.refl _ _).alloc (Nat.le_refl _) _)) (bools_one ins) (by have := Hins.out; omega) (by have := Hins.out; omega) (by simp) ?_); intro v27 w11 happ; have HP := Lib.hid happ; clear happ)
                    have hA11 : Below w10.heap.size w10 w11 := HP.out.below ((Below.refl _ _).alloc (Nat.le_refl _) _) (by simp) (fun k hk => by have h : some w10.heap.size = some k := hk; simp at h; omega)
                    generalize hB11 : w10.heap.size = B11 at *
                    have hown11 := HP.out.own
                    simp only [Nat.zero_add, List.nil_append] at hown11
                    obtain ⟨p27, c27, rfl⟩ := (RO.own hown11).form
                    have K11 := Lib.hid (And.intro (BRow.of hown11) hA11)
                    have hBlt2 : B < w10.heap.size := K10.out.2.2.2.1.lt
                    clear hown11 HP Hbs hA11
                    go_loopw [28, 29] (fun kv i wr => ∃ n : Nat, 1 ≤ n ∧ n ≤ g.nodes.length ∧ i = .int .i64 n ∧ kv = .int .i64 (inCnt g n) ∧ BRow B11 wr (.slice p27 ins.length c27) (otherTo g (inCone g S0) ins n) ∧ Below B11 w10 wr) (fun _ i _ => g.nodes.length - (intOf i).toNat)
                    case atStart =>
                      have h1 : otherTo g (inCone g S0) ins 1 = ins := by rw [otherTo_succ, if_neg (fun h => Nat.lt_irrefl _ h.2.1)]; rfl
                      have h2 : inCnt g 1 = 0 := by rw [inCnt, if_neg (fun h => Nat.lt_irrefl _ h.2)]; rfl
                      exact ⟨1, Nat.le_refl _, by omega, rfl, by rw [h2]; rfl, by rw [h1]; exact K11.out.1, K11.out.2⟩
                    case round =>
                      obtain ⟨n, hn1, hn, rfl, rfl, hrow, hbel⟩ := hrel
                      have HR := Lib.hid (And.intro hrow hbel)
                      have hgb : Below w10.heap.size w10 wr := hB11.symm ▸ hbel
                      have hGr := K10.out.1.below hgb
                      have HG := Lib.hid (len_has hGr)
                      by_cases hlt : n < g.nodes.length
                      · skip
                        have hn0 : (0 : Int) < n := by omega
                        have hnl : (n : Int) < g.nodes.length := by omega
                        have hin := HI.out.2 n (by omega) (by omega)
                        obtain ⟨b, hb⟩ : ∃ b, inCone g S0 n = b := ⟨_, rfl⟩
                        have hci : wr.cell? ⟨B, n, none⟩ = some (.int .i64 (b2i b)) := (K10.out.2.2.2.1.below hgb hBlt2).cell (bis_at I n (by rw [HI.out.1]; omega) b (hin.trans hb))
                        have ho := otherTo_succ g (inCone g S0) ins n
                        have hic : inCnt g (n + 1) = if (g.nodes.getD n (0, 0)).1 = -1 ∧ 0 < n then inCnt g n + 1 else inCnt g n := rfl
                        obtain ⟨P1, P2, hP⟩ : ∃ a b, g.nodes.getD n (0, 0) = (a, b) := ⟨_, _, rfl⟩
                        rw [hb] at ho
                        have hcl : ∀ m, m ≤ g.nodes.length → inCnt g m ≤ m := fun m hm => by have := inCnt_eq g HW.out.1 m hm; omega
                        have hcn := hcl n (by omega)
                        have hlenO := otherTo_length g (inCone g S0) ins n
                        by_cases hP1 : P1 = -1
                        · subst hP1
                          have HF := Lib.hid (fan_in hGr n (by omega) (by omega) P2 hP)
                          rw [hP] at ho hic
                          rw [if_pos ⟨rfl, by omega⟩] at hic
                          generalize hcnt : inCnt g n = c at *
                          have hci' : (c : Int) ≤ 200 := by omega
                          have HIC := Lib.hid hic
                          cases b
                          · change wr.cell? ⟨B, n, none⟩ = some (.int .i64 0) at hci
                            by_cases hcl2 : c < ins.length
                            · rw [if_pos ⟨rfl, by omega, rfl, hcl2⟩] at ho
                              have HO := Lib.hid ho
                              rcases hrow with ⟨h1, h2⟩ | ⟨gB, cap, rest, h1, h2, h3⟩
                              · exfalso; rw [h2] at hlenO; simp at hlenO; omega
                              · simp only [Value.slice.injEq] at h1
                                obtain ⟨rfl, h1b, rfl⟩ := h1
                                generalize otherTo g (inCone g S0) ins n = O at *
                                obtain ⟨x, hx⟩ : ∃ x, O.getD c false = x := ⟨_, rfl⟩
                                have hcx : wr.cell? ⟨gB, c, none⟩ = some (.bool x) := h3.cell (by rw [List.getElem?_append_left (by simp [bools]; omega), ← hx]; exact bools_at O c (by omega))
                                have hfr := h3.frz c
                                have hci2 : (c : Int) < ins.length := by omega
                                have HO2 := Lib.hid (And.intro hx (And.intro h2 (And.intro h3 hlenO)))
                                clear hx h2 h3 ho hic hP hGr hgb hbel hb hin hcl hcn hcl2 h1b
                                go_wp2_with fail
                                refine HG.out.mono ?_; rintro e w' ⟨rfl, rfl⟩
                                go_wp2_with fail
                                refine HF.out.mono ?_; rintro e w' ⟨rfl, rfl⟩
                                go_wp2_with fail
                                go_roundw
                                case rel =>
                                  refine ⟨n + 1, by omega, by omega, by go_num, by rw [HIC.out]; go_num, ?_, HR.out.2.setCell HO2.out.2.1 _⟩
                                  rw [HO.out, HO2.out.1]
                                  refine .inr ⟨gB, _, rest, by rw [List.length_set, HO2.out.2.2.2], HO2.out.2.1, ?_⟩
                                  have hs := HO2.out.2.2.1.set c (.bool !x)
                                  rw [List.set_append_left _ _ (by simp [bools]; omega), bools_set] at hs
                                  exact hs
                                case measure => simp [intOf]; omega
                            · rw [if_neg (fun h => hcl2 h.2.2.2)] at ho
                              have HO := Lib.hid ho
                              have hci2 : (ins.length : Int) ≤ c := by omega
                              clear ho hic hP hGr hgb hbel hrow hb hin hcl hcn hcl2
                              go_wp2_with fail
                              refine HG.out.mono ?_; rintro e w' ⟨rfl, rfl⟩
                              go_wp2_with fail
                              refine HF.out.mono ?_; rintro e w' ⟨rfl, rfl⟩
                              go_wp2_with fail
                              go_roundw
                              case rel => exact ⟨n + 1, by omega, by omega, by go_num, by rw [HIC.out]; go_num, by rw [HO.out]; exact HR.out.1, HR.out.2⟩
                              case measure => simp [intOf]; omega
                          · change wr.cell? ⟨B, n, none⟩ = some (.int .i64 1) at hci
                            rw [if_neg (fun h => nomatch h.2.2.1)] at ho
                            have HO := Lib.hid ho
                            clear ho hic hP hGr hgb hbel hrow hb hin hcl hcn
                            go_wp2_with fail
                            refine HG.out.mono ?_; rintro e w' ⟨rfl, rfl⟩
                            go_wp2_with fail
                            refine HF.out.mono ?_; rintro e w' ⟨rfl, rfl⟩
                            go_wp2_with fail
                            go_roundw
                            case rel => exact ⟨n + 1, by omega, by omega, by go_num, by rw [HIC.out]; go_num, by rw [HO.out]; exact HR.out.1, HR.out.2⟩
                            case measure => simp [intOf]; omega
                        · have HF := Lib.hid (fan_and hGr n (by omega) (by omega) P1 P2 hP hP1)
                          rw [hP, if_neg (fun h => hP1 h.1)] at ho hic
                          have HO := Lib.hid (And.intro ho hic)
                          clear ho hic hP hGr hgb hbel hrow hb hin hcl hcn hP1
                          go_wp2_with fail
                          refine HG.out.mono ?_; rintro e w' ⟨rfl, rfl⟩
                          go_wp2_with fail
                          refine HF.out.mono ?_; rintro e w' ⟨d, rfl, rfl⟩
                          go_wp2_with fail
                          go_roundw
                          case rel => exact ⟨n + 1, by omega, by omega, by go_num, by rw [HO.out.2], by rw [HO.out.1]; exact HR.out.1.below (below_drewN _), HR.out.2.trans (below_drewN _)⟩
                          case measure => simp [intOf]; omega
                      · skip
                        obtain rfl : n = g.nodes.length := by omega
                        have hlenO := otherTo_length g (inCone g S0) ins g.nodes.length
                        have hlits : ∀ k, k < R.length → isV (gEval g (otherTo g (inCone g S0) ins g.nodes.length)) (R.getD k 0) = isV (gEval g ins) (R.getD k 0) := fun k hk => by
                          have h := cone_lit HW.out.1 HW.out.2.1 R ins k hk (HRR.out.2 k hk)
                          rw [HS0.out.1] at h; exact h
                        have HLL := Lib.hid hlits
                        have hro := hrow.ro
                        have hK : RO wr (.slice p26 (gEval g ins).length c26) 1 (gEval g ins).length (bools (gEval g ins)) := K10.out.2.2.2.2.1.below hgb
                        have hKr := K10.out.2.1.below hgb
                        have hwW := Below.then K10.out.2.2.2.2.2 hgb (Nat.le_refl _)
                        generalize otherTo g (inCone g S0) ins g.nodes.length = O at *
                        have E2 := Lib.hid (eval_any wr bg F g _ O hGr (by have := HW.out.2.2.1; omega) hro (by have := HW.out.2.2.2.1; omega) (by have := Hins.out; omega) (fun k hk => by have := HW.out.1.inp k hk; omega) HW.out.2.2.2.2.2)
                        have K12 := Lib.hid (And.intro hK (And.intro hKr hwW))
                        clear hlits hrow hbel hgb hro hK hKr hwW hGr
                        generalize wr = w12 at *
                        go_wp2_with fail
                        refine HG.out.mono ?_; rintro e w' ⟨rfl, rfl⟩
                        go_wp2_with fail
                        refine E2.out.mono ?_
                        rintro e w13 ⟨v33, rfl, hro3, hb3⟩
                        obtain ⟨p33, c33, rfl⟩ := hro3.form
                        have K13 := Lib.hid (And.intro (K12.out.1.below hb3) (And.intro hro3 (And.intro (K12.out.2.1.below hb3) (Below.then K12.out.2.2 hb3 (Nat.le_refl _)))))
                        clear hro3 hb3
                        go_wp2_with fail
                        go_loop [261] (fun i => ∃ k : Nat, k ≤ R.length ∧ i = .int .i64 k) (fun i => R.length - (intOf i).toNat)
                        case atStart => exact ⟨0, Nat.zero_le _, rfl⟩
                        case round =>
                          obtain ⟨k, hk, rfl⟩ := hrel
                          by_cases hlt : k < R.length
                          · skip
                            obtain ⟨bR, oR, rfl⟩ := K13.out.2.2.1.sl (ints_at R k hlt)
                            have hcx := K13.out.2.2.1.cell (ints_at R k hlt)
                            have hg := HRR.out.2 k hlt
                            have hll := HLL.out k hlt
                            generalize R.getD k 0 = X at *
                            have hX : X < 2^62 := by have := hg.2; omega
                            obtain ⟨y, hy⟩ : ∃ y, isV (gEval g ins) X = y := ⟨_, rfl⟩
                            have I1 := Lib.hid (is_same w13 _ _ X y K13.out.1 hX hy)
                            have I2 := Lib.hid (is_same w13 _ _ X y K13.out.2.1 hX (hll.trans hy))
                            clear hg hll hX hy
                            go_wp2_with fail
                            refine I1.out.mono ?_; rintro e w' ⟨rfl, rfl⟩
                            go_wp2_with fail
                            refine I2.out.mono ?_; rintro e w' ⟨rfl, rfl⟩
                            go_wp2_with fail
                            go_round
                            case rel => exact ⟨k + 1, by omega, by go_num⟩
                            case measure => simp [intOf]; omega
                          · have hle : (R.length : Int) ≤ k := by omega
                            clear hlt
                            go_wp2_with fail
                            go_ret
                            exact ⟨rfl, K13.out.2.2.2⟩
end Go.Proofs.Ytoccghbkfnalgaa
