/- StableRecords: for every ballot, slot, text and slice of bytes the law returns true and its arguments read as they did. No condition beyond the given row's own. -/
import Derived.Test.YtpgbfoeejiamjaaGreatDoorK15
import Derived.Test.YtpgbfoeejiamjaaGreatDoorRows
import Derived.Test.YtpgbfoeejiamjaaGreatDoorCards
import Derived.Test.YtpgbfoeejiamjaaGreatDoorTie
import Derived.ProofKit
import Derived.LaidMore
import Derived.OpenShut
import Derived.Stop.Joined
import Derived.Lib.SmallJoins
import Derived.SevenTiedAt
import Derived.Carry
import Derived.ChangeMaps5
set_option linter.all false
set_option linter.unusedVariables false
set_option linter.unusedSimpArgs false
set_option linter.unusedSectionVars false
namespace Go.Proofs.YtpgbfoeejiamjaaGreatDoor
open Go Go.ChangeShapes Go.ChangeMaps Go.WideShapes Go.ChangeAt Go.RowKit Go.Joins Sk

theorem ownK : ownKnob Tryz.prog.godebug = none := by kernel_rfl
theorem laidOut : laidOutB Tryz.prog = true := by kernel_rfl
theorem gFours : Tryz.prog.globalNamed "skald/crc.fours" = some 1 := by kernel_rfl
theorem tFours : (Tryz.prog.globals[1]?).map (·.type) = some 292 := by kernel_rfl

theorem door_met (os : Os) (args : Array Value) : laidMetH Tryz.prog [("skald/crc.fours", Rows.laid_skald_crc_fours)] ((World.doorLaid Tryz.prog 400 os).forCall (fun _ _ => 0) ⟨#[], args, []⟩).memory :=
  laidMetH_of_parts3 (fuel := 8) (laidMet_of_run' 8 (by kernel_rfl) (by kernel_rfl)) (by kernel_rfl) (by kernel_rfl)

theorem fours_of_laid {W : World} (h : laidMetH Tryz.prog [("skald/crc.fours", Rows.laid_skald_crc_fours)] W) : Fours W := by
  rw [MakeChecks.laidMetH_plain _ _ _ (by kernel_rfl)] at h
  obtain ⟨ps, ⟨g0, t0, cs0, f0, p0, q0, hg0, ht0, hv0, hd0, _, _⟩, _, _⟩ := h
  obtain rfl := Option.some.inj (gFours.symm.trans hg0)
  obtain rfl := Option.some.inj (tFours.symm.trans ht0)
  obtain ⟨xs, m1, rfl, hx1, hlen, hn3, hel⟩ := DataW.trod_array Tryz.underlying292 hd0
  have c3 : Tryz.prog.cellsOf 231 = 1 := by kernel_rfl
  have c24 : Tryz.prog.cellsOf 292 = 16 := by kernel_rfl
  rw [c24] at hlen
  intro k hk
  have h0 := hel k hk
  obtain ⟨x0, hx0⟩ : ∃ x, xs[k]? = some x := ⟨_, List.getElem?_eq_getElem (by omega)⟩
  rw [c3, hx0] at h0
  obtain ⟨e, e1, e2, _⟩ := DataW.trod_int Tryz.underlying231 h0
  have := World.var?_cell hg0 hv0 k
  rw [this]
  have hcs : cs0[k]? = some (.int .u32 e) := by
    have h1 : (cs0.toList.drop k).take 1 = [.int .u32 e] := by simpa using e1
    have h2 := congrArg List.head? h1
    simp [List.head?_take, List.head?_drop] at h2
    exact h2
  rw [hcs]
  have hx2 : (xs.map (·.1))[k]? = some (.lit (.int .u32 e)) := by rw [List.getElem?_map, hx0, Option.map_some, e2]
  simp only [Prod.mk.injEq, Rows.laid_skald_crc_fours, DataW.agg.injEq] at hx1
  rw [← hx1.1] at hx2
  have hd : ∀ j, j < 16 → ([.lit (.int .u32 0), .lit (.int .u32 498536548), .lit (.int .u32 997073096), .lit (.int .u32 651767980), .lit (.int .u32 1994146192), .lit (.int .u32 1802195444), .lit (.int .u32 1303535960), .lit (.int .u32 1342533948), .lit (.int .u32 3988292384), .lit (.int .u32 4027552580), .lit (.int .u32 3604390888), .lit (.int .u32 3412177804), .lit (.int .u32 2607071920), .lit (.int .u32 2262029012), .lit (.int .u32 2685067896), .lit (.int .u32 3183342108)] : List (DataW Unit))[j]? = some (.lit (.int .u32 (foursT.getD j 0 : Nat))) := by
    intro j hj
    match j, hj with
    | 0, _ => rfl
    | 1, _ => rfl
    | 2, _ => rfl
    | 3, _ => rfl
    | 4, _ => rfl
    | 5, _ => rfl
    | 6, _ => rfl
    | 7, _ => rfl
    | 8, _ => rfl
    | 9, _ => rfl
    | 10, _ => rfl
    | 11, _ => rfl
    | 12, _ => rfl
    | 13, _ => rfl
    | 14, _ => rfl
    | 15, _ => rfl
    | n + 16, h => omega
  rw [hd k hk] at hx2
  simp only [Option.some.injEq, DataW.lit.injEq, Lit.int.injEq, true_and] at hx2
  rw [hx2]

theorem byte_wf {x : Int} (h : (Lit.int .u8 x).wf = true) : 0 ≤ x ∧ x < 256 := by
  have h1 : IntKind.u8.min = 0 := rfl
  have h2 : IntKind.u8.max = 255 := rfl
  simp only [Lit.wf, Bool.and_eq_true, decide_eq_true_eq] at h
  omega
theorem bytes_rd {H : Type} {enc : TypeId × Value → H} {W : World} {a0 : Option Addr} {len cap : Nat} {d0 : DataW H} {p : List MemPlace}
    (h0 : DataW.Trod enc Tryz.prog W 0 (fun _ => true) true 24 (.slice a0 len cap) d0 p) :
    ∃ s : List UInt8, len = s.length ∧ RdW W 1 (.slice a0 len cap) s.length (s.map byteV) := by
  obtain ⟨fuel, hf⟩ := h0
  rcases open_ints Tryz.underlying24 Tryz.underlying5 (by kernel_rfl) hf with ⟨hcs, hx⟩ | ⟨a, len', cap', zs, hcs, _, hl, hm, hz, hx, hcell, hwz⟩
  · simp [Value.cells] at hcs
    obtain ⟨rfl, rfl, rfl⟩ := hcs
    exact ⟨[], rfl, by simp, _, _, rfl, by simp, by simp [maxLen], fun h => absurd h (by simp)⟩
  · simp [Value.cells] at hcs
    obtain ⟨rfl, rfl, rfl⟩ := hcs
    simp only [if_true] at hz
    have hlt : (zs.take len).length = len := by simp; omega
    refine ⟨(zs.take len).map fun z => UInt8.ofNat z.toNat, by simp; omega, by simp, some a, cap, ?_, by simp; omega, hm, fun _ => ⟨a, rfl, ?_⟩⟩
    · simp; omega
    · intro j u hu
      simp only [List.getElem?_map, Option.map_eq_some_iff] at hu
      obtain ⟨c, ⟨z, hz1, rfl⟩, rfl⟩ := hu
      have hj : j < len := by have := (List.getElem?_eq_some_iff.1 hz1).1; omega
      rw [List.getElem?_take_of_lt hj] at hz1
      have hzm := List.mem_of_getElem? hz1
      have hb := byte_wf (hwz z hzm)
      rw [hcell j (by omega), List.getD_eq_getElem?_getD, hz1, Option.getD_some]
      have e : ((UInt8.ofNat z.toNat).toNat : Int) = z := by
        rw [UInt8.toNat_ofNat_of_lt' (by simp [UInt8.size]; omega)]; omega
      simp only [byteV, e]

set_option maxRecDepth 100000 in
theorem lifted (os : Os) (started : os.Started) (H : Type) (enc : TypeId × Value → H) :
    ReturnsInHanded {} Tryz.checked os 3 .any (fun w args => (Rows.stableRecordsSpec.pre enc Tryz.prog Tryz.f3 [] false w args ∧ laidMetH Tryz.prog [("skald/crc.fours", Rows.laid_skald_crc_fours)] w) ∧ sizedMet enc Tryz.prog Tryz.f3 (OpenSpec.ofChange Rows.stableRecordsSpec) false w args)
      (Rows.stableRecordsSpec.post enc Tryz.prog Tryz.f3 false true false false) := by
  refine returnsInHanded_of_change_and (C := Tryz.checked) (X := fun w _ => laidMetH Tryz.prog [("skald/crc.fours", Rows.laid_skald_crc_fours)] w) (fun _ _ _ hh h => h.of_heap hh) ownK started (by kernel_rfl) Tryz.func3
    (ChangeSpec.witness_shaped (enc := enc) (C := Tryz.checked) (os := os) (X := fun w _ => laidMetH Tryz.prog [("skald/crc.fours", Rows.laid_skald_crc_fours)] w) false (World.doorLaid Tryz.prog 400 os) #[.agg #[ei 0, ei 0], ei 0, .string ⟨#[]⟩, .slice none 0 0] 8 rfl (World.shaped_of_RefB (by kernel_rfl) (by kernel_rfl)) (by kernel_rfl) (by kernel_rfl) (by kernel_rfl) (door_met os _)) ?_
  intro W base args ds gs before hval0 hW _ _ hL _
  have hval : ∀ (j : Nat) t v, Tryz.f3.params[j]? = some t → args[j]? = some v → Value.okWide Tryz.prog W .any base t v := hval0
  have hW' := hW
  obtain ⟨p, q, hA0, hV, rfl, _, _⟩ := hW
  have hA : DataW.TrodAll enc Tryz.prog W 0 (fun _ => true) true Tryz.f3.params.toList args.toList ds p := hA0
  rw [Tryz.params3] at hA hval
  obtain ⟨v0, v1, v2, v3, d0, d1, d2, d3, p0, p1, p2, p3, rfl, rfl, rfl, h0, h1, h2, h3⟩ := trodAll_four hA
  obtain ⟨rfl, rfl⟩ := trodVars_none hV
  obtain ⟨c0, c1, y0, y1, m, rfl, rfl, rfl, hy0, hy1⟩ := open_agg2 Tryz.underlying23 (by kernel_rfl) (by kernel_rfl) (hval 0 23 v0 rfl rfl) h0
  obtain ⟨z0, e0, ey0, _⟩ := DataW.trod_int Tryz.underlying3 hy0
  obtain ⟨z1, e1, ey1, _⟩ := DataW.trod_int Tryz.underlying3 hy1
  obtain ⟨n, rfl, rfl, rfl, _⟩ := open_int Tryz.underlying3 (hval 1 3 v1 rfl rfl) h1
  obtain ⟨t, rfl, rfl, rfl, _⟩ := open_string Tryz.underlying9 (hval 2 9 v2 rfl rfl) h2
  obtain ⟨a3, len3, cap3, rfl⟩ := okWide_slice Tryz.underlying24 (hval 3 24 v3 rfl rfl)
  clear hA0 hval0
  simp only [List.append_nil] at hW'
  simp only [List.cons.injEq, and_true] at e0 e1
  subst e0; subst e1
  have hlt : ∀ x ∈ y0.2 ++ y1.2 ++ p3, x.block < W.heap.size := fun x hx => by simpa using hW'.lt x hx
  obtain ⟨s, hs, hr⟩ := bytes_rd h3
  have hF := fours_of_laid hL
  have hwalk := lawRecords hF ⟨z0, z1⟩ n t hs hr
  refine hwalk.mono fun e W' ⟨he, hb⟩ => ?_
  subst he
  have harg0 : DataW.Trod enc Tryz.prog W' 0 (fun b => decide (b < W.heap.size)) true 23 (.agg #[.int .i64 z0, .int .i64 z1]) (.agg [y0.1, y1.1]) (y0.2 ++ y1.2) :=
    Below.trod laidOut (by kernel_rfl) (of_decide_eq_true (by kernel_rfl)) h0 hb (fun x hx => hlt x (List.mem_append.2 (.inl hx)))
  have harg1 : DataW.Trod enc Tryz.prog W' 0 (fun b => decide (b < W.heap.size)) true 3 (.int .i64 n) (.lit (.int .i64 n)) [] :=
    Below.trod laidOut (by kernel_rfl) (of_decide_eq_true (by kernel_rfl)) h1 hb (fun x hx => by cases hx)
  have harg2 : DataW.Trod enc Tryz.prog W' 0 (fun b => decide (b < W.heap.size)) true 9 (.string t) (.lit (.string t.data.toList)) [] :=
    Below.trod laidOut (by kernel_rfl) (of_decide_eq_true (by kernel_rfl)) h2 hb (fun x hx => by cases hx)
  have harg3 : DataW.Trod enc Tryz.prog W' 0 (fun b => decide (b < W.heap.size)) true 24 (.slice a3 len3 cap3) d3 p3 :=
    Below.trod laidOut (by kernel_rfl) (of_decide_eq_true (by kernel_rfl)) h3 hb (fun x hx => hlt x (List.mem_append.2 (.inr hx)))
  refine ⟨_, rfl, _, _, _, [], _, [], hW', trodAll_mk1 (shut_bool Tryz.underlying4 _), trodAll_mk4 harg0 harg1 harg2 harg3, rfl, hb.frame _, fun h => by cases h⟩

theorem stableRecords_holds : Rows.StableRecordsSaid :=
  OpenClaim.holds_of_wide 3 Tryz.f3 rfl rfl rfl rfl rfl rfl rfl ⟨rfl, rfl, rfl, rfl, rfl⟩ rfl rfl rfl rfl rfl (by kernel_rfl) Tryz.func3 (by kernel_rfl)
    (of_decide_eq_true (by kernel_rfl)) (by unfold Func.isWrapper; first | (rw [if_pos (by decide +kernel)]; kernel_rfl) | (rw [if_neg (by decide +kernel)]; exact ⟨rfl, rfl⟩))
    (fun os started H enc _ => lifted os started H enc)

theorem stableRecords_card : Rows.StableRecordsCardSaid :=
  Claim7.holds_tied_plain_at .later [] [.data] true (true, "7a31227933b2936f26e0e056dc3776e07693e82169dd412d0e6e4a4f35c0969e") true
    stableRecords_holds (fun _ h => by cases h) (by kernel_rfl) (fun _ h => by cases h) stableRecords_row_tie rfl ⟨rfl, rfl⟩ (by kernel_rfl) rfl
    (fun f fn hf hfn => by
      obtain rfl : f = 3 := Option.some.inj ((show Tryz.prog.funcNamed "skald/skaldlaw17.StableRecords" = some 3 by kernel_rfl).symm.trans hf) |>.symm
      obtain rfl : fn = Tryz.f3 := (Option.some.inj (Tryz.func3.symm.trans hfn)).symm
      exact ⟨by kernel_rfl, fun j t ht => by
        rw [Tryz.params3] at ht
        have hm : t ∈ [23, 3, 9, 24] := by simpa using Array.mem_of_getElem? ht
        have hall : ([23, 3, 9, 24].all fun u => !Tryz.prog.wantsStandIn u) = true := by kernel_rfl
        exact (show Tryz.prog.wantsStandIn t = false by simpa using List.all_eq_true.1 hall t hm)⟩)
    (by kernel_rfl)
#print axioms stableRecords_card
end Go.Proofs.YtpgbfoeejiamjaaGreatDoor
