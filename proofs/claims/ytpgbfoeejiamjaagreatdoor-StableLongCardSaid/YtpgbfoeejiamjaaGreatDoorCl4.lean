/- StableLong: for every number of bytes more or less the law returns true and its argument reads as it did. No condition beyond the given row's own. -/
import Derived.Test.YtpgbfoeejiamjaaGreatDoorK16
import Derived.Test.YtpgbfoeejiamjaaGreatDoorRows
import Derived.Test.YtpgbfoeejiamjaaGreatDoorCards
import Derived.Test.YtpgbfoeejiamjaaGreatDoorTie
import Derived.ProofKit
import Derived.LaidMore
import Derived.OpenShut
import Derived.Stop.Joined
import Derived.Lib.SmallJoins
import Derived.SevenTiedAt
import Derived.Carry
import Derived.ChangeMaps5
set_option linter.all false
set_option linter.unusedVariables false
set_option linter.unusedSimpArgs false
set_option linter.unusedSectionVars false
namespace Go.Proofs.YtpgbfoeejiamjaaGreatDoor
open Go Go.ChangeShapes Go.ChangeMaps Go.WideShapes Go.ChangeAt Go.RowKit Go.Joins Sk

theorem ownK : ownKnob Tryz.prog.godebug = none := by kernel_rfl
theorem laidOut : laidOutB Tryz.prog = true := by kernel_rfl
theorem gFours : Tryz.prog.globalNamed "skald/crc.fours" = some 1 := by kernel_rfl
theorem tFours : (Tryz.prog.globals[1]?).map (·.type) = some 292 := by kernel_rfl

theorem door_met (os : Os) (args : Array Value) : laidMetH Tryz.prog [("skald/crc.fours", Rows.laid_skald_crc_fours)] ((World.doorLaid Tryz.prog 400 os).forCall (fun _ _ => 0) ⟨#[], args, []⟩).memory :=
  laidMetH_of_parts3 (fuel := 8) (laidMet_of_run' 8 (by kernel_rfl) (by kernel_rfl)) (by kernel_rfl) (by kernel_rfl)

theorem fours_of_laid {W : World} (h : laidMetH Tryz.prog [("skald/crc.fours", Rows.laid_skald_crc_fours)] W) : Fours W := by
  rw [MakeChecks.laidMetH_plain _ _ _ (by kernel_rfl)] at h
  obtain ⟨ps, ⟨g0, t0, cs0, f0, p0, q0, hg0, ht0, hv0, hd0, _, _⟩, _, _⟩ := h
  obtain rfl := Option.some.inj (gFours.symm.trans hg0)
  obtain rfl := Option.some.inj (tFours.symm.trans ht0)
  obtain ⟨xs, m1, rfl, hx1, hlen, hn3, hel⟩ := DataW.trod_array Tryz.underlying292 hd0
  have c3 : Tryz.prog.cellsOf 231 = 1 := by kernel_rfl
  have c24 : Tryz.prog.cellsOf 292 = 16 := by kernel_rfl
  rw [c24] at hlen
  intro k hk
  have h0 := hel k hk
  obtain ⟨x0, hx0⟩ : ∃ x, xs[k]? = some x := ⟨_, List.getElem?_eq_getElem (by omega)⟩
  rw [c3, hx0] at h0
  obtain ⟨e, e1, e2, _⟩ := DataW.trod_int Tryz.underlying231 h0
  have := World.var?_cell hg0 hv0 k
  rw [this]
  have hcs : cs0[k]? = some (.int .u32 e) := by
    have h1 : (cs0.toList.drop k).take 1 = [.int .u32 e] := by simpa using e1
    have h2 := congrArg List.head? h1
    simp [List.head?_take, List.head?_drop] at h2
    exact h2
  rw [hcs]
  have hx2 : (xs.map (·.1))[k]? = some (.lit (.int .u32 e)) := by rw [List.getElem?_map, hx0, Option.map_some, e2]
  simp only [Prod.mk.injEq, Rows.laid_skald_crc_fours, DataW.agg.injEq] at hx1
  rw [← hx1.1] at hx2
  have hd : ∀ j, j < 16 → ([.lit (.int .u32 0), .lit (.int .u32 498536548), .lit (.int .u32 997073096), .lit (.int .u32 651767980), .lit (.int .u32 1994146192), .lit (.int .u32 1802195444), .lit (.int .u32 1303535960), .lit (.int .u32 1342533948), .lit (.int .u32 3988292384), .lit (.int .u32 4027552580), .lit (.int .u32 3604390888), .lit (.int .u32 3412177804), .lit (.int .u32 2607071920), .lit (.int .u32 2262029012), .lit (.int .u32 2685067896), .lit (.int .u32 3183342108)] : List (DataW Unit))[j]? = some (.lit (.int .u32 (foursT.getD j 0 : Nat))) := by
    intro j hj
    match j, hj with
    | 0, _ => rfl
    | 1, _ => rfl
    | 2, _ => rfl
    | 3, _ => rfl
    | 4, _ => rfl
    | 5, _ => rfl
    | 6, _ => rfl
    | 7, _ => rfl
    | 8, _ => rfl
    | 9, _ => rfl
    | 10, _ => rfl
    | 11, _ => rfl
    | 12, _ => rfl
    | 13, _ => rfl
    | 14, _ => rfl
    | 15, _ => rfl
    | n + 16, h => omega
  rw [hd k hk] at hx2
  simp only [Option.some.injEq, DataW.lit.injEq, Lit.int.injEq, true_and] at hx2
  rw [hx2]

set_option maxRecDepth 100000 in
theorem lifted (os : Os) (started : os.Started) (H : Type) (enc : TypeId × Value → H) :
    ReturnsInHanded {} Tryz.checked os 6 .any (fun w args => (Rows.stableLongSpec.pre enc Tryz.prog Tryz.f6 [] false w args ∧ laidMetH Tryz.prog [("skald/crc.fours", Rows.laid_skald_crc_fours)] w) ∧ sizedMet enc Tryz.prog Tryz.f6 (OpenSpec.ofChange Rows.stableLongSpec) false w args)
      (Rows.stableLongSpec.post enc Tryz.prog Tryz.f6 false true false false) := by
  refine returnsInHanded_of_change_and (C := Tryz.checked) (X := fun w _ => laidMetH Tryz.prog [("skald/crc.fours", Rows.laid_skald_crc_fours)] w) (fun _ _ _ hh h => h.of_heap hh) ownK started (by kernel_rfl) Tryz.func6
    (ChangeSpec.witness_shaped (enc := enc) (C := Tryz.checked) (os := os) (X := fun w _ => laidMetH Tryz.prog [("skald/crc.fours", Rows.laid_skald_crc_fours)] w) false (World.doorLaid Tryz.prog 400 os) #[.int .u8 0] 8 rfl (World.shaped_of_RefB (by kernel_rfl) (by kernel_rfl)) (by kernel_rfl) (by kernel_rfl) (by kernel_rfl) (door_met os _)) ?_
  intro W base args ds gs before hval0 hW _ _ hL _
  have hval : ∀ (j : Nat) t v, Tryz.f6.params[j]? = some t → args[j]? = some v → Value.okWide Tryz.prog W .any base t v := hval0
  have hW' := hW
  obtain ⟨p, q, hA0, hV, rfl, _, _⟩ := hW
  have hA : DataW.TrodAll enc Tryz.prog W 0 (fun _ => true) true Tryz.f6.params.toList args.toList ds p := hA0
  rw [Tryz.params6] at hA hval
  obtain ⟨v0, d0, rfl, rfl, h0⟩ := trodAll_one hA
  obtain ⟨rfl, rfl⟩ := trodVars_none hV
  obtain ⟨n, rfl, rfl, rfl, hn⟩ := open_int Tryz.underlying5 (hval 0 5 v0 rfl rfl) h0
  clear hA0 hval0
  simp only [List.append_nil] at hW'
  have hF := fours_of_laid hL
  obtain ⟨hn0, hn1⟩ := bounds_u8 hn
  refine (lawLong hF n hn0 (by omega)).mono fun e W' ⟨he, hb⟩ => ?_
  subst he
  have harg0 : DataW.Trod enc Tryz.prog W' 0 (fun b => decide (b < W.heap.size)) true 5 (.int .u8 n) (.lit (.int .u8 n)) [] :=
    Below.trod laidOut (by kernel_rfl) (of_decide_eq_true (by kernel_rfl)) h0 hb (fun x hx => by cases hx)
  refine ⟨_, rfl, _, _, _, [], _, [], hW', trodAll_mk1 (shut_bool Tryz.underlying4 _), trodAll_mk1 harg0, rfl, hb.frame _, fun h => by cases h⟩

theorem stableLong_holds : Rows.StableLongSaid :=
  OpenClaim.holds_of_wide 6 Tryz.f6 rfl rfl rfl rfl rfl rfl rfl ⟨rfl, rfl, rfl, rfl, rfl⟩ rfl rfl rfl rfl rfl (by kernel_rfl) Tryz.func6 (by kernel_rfl)
    (of_decide_eq_true (by kernel_rfl)) (by unfold Func.isWrapper; first | (rw [if_pos (by decide +kernel)]; kernel_rfl) | (rw [if_neg (by decide +kernel)]; exact ⟨rfl, rfl⟩))
    (fun os started H enc _ => lifted os started H enc)

theorem stableLong_card : Rows.StableLongCardSaid :=
  Claim7.holds_tied_plain_at .later [] [.data] true (true, "7a31227933b2936f26e0e056dc3776e07693e82169dd412d0e6e4a4f35c0969e") true
    stableLong_holds (fun _ h => by cases h) (by kernel_rfl) (fun _ h => by cases h) stableLong_row_tie rfl ⟨rfl, rfl⟩ (by kernel_rfl) rfl
    (fun f fn hf hfn => by
      obtain rfl : f = 6 := Option.some.inj ((show Tryz.prog.funcNamed "skald/skaldlaw17.StableLong" = some 6 by kernel_rfl).symm.trans hf) |>.symm
      obtain rfl : fn = Tryz.f6 := (Option.some.inj (Tryz.func6.symm.trans hfn)).symm
      exact ⟨by kernel_rfl, fun j t ht => by
        rw [Tryz.params6] at ht
        have hm : t ∈ [5] := by simpa using Array.mem_of_getElem? ht
        have hall : ([5].all fun u => !Tryz.prog.wantsStandIn u) = true := by kernel_rfl
        exact (show Tryz.prog.wantsStandIn t = false by simpa using List.all_eq_true.1 hall t hm)⟩)
    (by kernel_rfl)
#print axioms stableLong_card
end Go.Proofs.YtpgbfoeejiamjaaGreatDoor
