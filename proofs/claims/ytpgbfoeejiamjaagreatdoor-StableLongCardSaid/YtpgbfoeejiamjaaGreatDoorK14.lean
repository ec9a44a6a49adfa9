/- The reference of wire: the reader. -/
import Derived.Test.YtpgbfoeejiamjaaGreatDoorK13
import Derived.Test.YtpgbfoeejiamjaaGreatDoorK11
import Derived.Test.YtpgbfoeejiamjaaGreatDoorK04
import Derived.Test.YtpgbfoeejiamjaaGreatDoorProg
import Derived.BigRegion
import Derived.ChangeAlike
set_option linter.all false
set_option linter.unusedVariables false
set_option linter.unusedSimpArgs false
set_option linter.unusedSectionVars false
namespace Sk
open Go Go.RowKit Go.Proofs
attribute [local go_sem ↓] append_hide slice_hide
/-- The reference's reader: none: it has failed. -/
def rrA (b : Nat) (x : Option (List UInt8)) : Asn :=
  match x with
  | some s => exi fun v : Value => grp [blk b (.cells #[.bool true, v, .bool false] 205), slA 1 v s.length (s.map byteV)]
  | none => blk b (.cells #[.bool true, .slice none 0 0, .bool true] 205)
section
variable {W w : World} {L : List Asn} {b : Nat} {s : List UInt8}
theorem Own.rr_open (H : Own W w (rrA b (some s) :: L)) : ∃ A c, Own W w (blk b (.cells #[.bool true, .slice A s.length c, .bool false] 205) :: slA 1 (.slice A s.length c) s.length (s.map byteV) :: L) := by
  obtain ⟨v, H⟩ := Own.exi_iff.1 H
  have H : Own W w (blk b (.cells #[.bool true, v, .bool false] 205) :: slA 1 v s.length (s.map byteV) :: L) := Own.grp_iff.1 H
  obtain ⟨A, c, rfl, _⟩ := H.front2.sl_rd.form
  exact ⟨A, c, H⟩
theorem Own.rr_shut {v : Value} (H : Own W w (blk b (.cells #[.bool true, v, .bool false] 205) :: slA 1 v s.length (s.map byteV) :: L)) : Own W w (rrA b (some s) :: L) := Own.exi_iff.2 ⟨v, Own.grp_iff.2 H⟩
set_option maxRecDepth 100000 in
set_option maxHeartbeats 1000000 in
theorem rrRead {x : Value} (H : Own W w L) (hr : RdW w 1 x s.length (s.map byteV)) (hs : s.length ≤ 1099511627776) :
    Calls Tryz.prog 77 #[x] w fun e w' => ∃ b, e = .returned (ptr b) ∧ Own W w' (rrA b (some s) :: L) := by
  have H1 := H.row_new 5 #[] 0 rfl (by decide)
  obtain ⟨A2, c2, w2, hap, H2⟩ := H1.append_eq (m := s.length) byteT 24 (hr.alloc _) (bytes_one s) (by unfold maxLen; omega) (by omega)
  obtain ⟨A3, c3, rfl, _⟩ := hr.form
  rw [Nat.zero_add] at hap H2
  have H3 := (H2.row_freeze.alloc (.cells #[.bool true, .slice A2 s.length c2, .bool false] 205))
  go_enter Tryz.func77, Tryz.ntmps77
  go_wp2
  go_ret
  exact ⟨_, rfl, Own.rr_shut (by simpa using H3)⟩
set_option maxRecDepth 100000 in
set_option maxHeartbeats 1000000 in
theorem rrFail {x : Option (List UInt8)} (H : Own W w (rrA b x :: L)) : Calls Tryz.prog 163 #[ptr b] w fun e w' => e = .returned (.tuple #[]) ∧ Own W w' (rrA b none :: L) := by
  have key : ∃ v z, Own W w (blk b (.cells #[.bool true, v, z] 205) :: L) := by
    rcases x with _ | s
    · exact ⟨_, _, H⟩
    · obtain ⟨A, c, H0⟩ := H.rr_open
      exact ⟨_, _, H0.drop2⟩
  obtain ⟨v, z, H0⟩ := key
  have hc := H0.cell
  have hf := H0.free
  have H1 := (H0.set 2 (.bool true)).set 1 (.slice none 0 0)
  go_enter Tryz.func163, Tryz.ntmps163
  go_wp2_with (go_at_call 164; go_in)
  refine bodyPost_end (results_none rfl _ _ _) rfl ?_
  exact ⟨rfl, H1⟩
set_option maxHeartbeats 1000000 in
theorem rrEnd {x : Option (List UInt8)} (H : Own W w (rrA b x :: L)) : Calls Tryz.prog 81 #[ptr b] w fun e w' => e = .returned (ei (endP x)) ∧ w = w' := by
  rcases x with _ | s
  · have H0 : Own W w (blk b (.cells #[.bool true, .slice none 0 0, .bool true] 205) :: L) := H
    have hc := H0.cell
    go_enter Tryz.func81, Tryz.ntmps81
    go_wp2_with (go_at_call 164; go_in)
    go_ret
    exact ⟨rfl, rfl⟩
  · obtain ⟨A, c, H0⟩ := H.rr_open
    have hc := H0.cell
    rcases s with _ | ⟨x, s⟩
    · have e : endP (some []) = 0 := rfl
      rw [e]
      simp only [List.length_nil] at hc
      go_enter Tryz.func81, Tryz.ntmps81
      go_wp2_with (go_at_call 164; go_in)
      go_ret
      exact ⟨rfl, rfl⟩
    · have e : endP (some (x :: s)) = 10 := rfl
      rw [e]
      have hp : 0 < ((x :: s).length : Int) := by rw [List.length_cons]; omega
      have hp2 : decide (0 < (x :: s).length) = true := by simp
      generalize (x :: s).length = n at *
      go_enter Tryz.func81, Tryz.ntmps81
      go_wp2_with (go_at_call 164; go_in)
      go_ret
      exact ⟨rfl, rfl⟩
set_option maxRecDepth 100000 in
set_option maxHeartbeats 4000000 in
theorem rrUint {x : Option (List UInt8)} (H : Own W w (rrA b x :: L)) (hx : ∀ s, x = some s → s.length ≤ 1099511627776) :
    Calls Tryz.prog 162 #[ptr b] w fun e w' => e = .returned (.int .u64 (uintV x : Nat)) ∧ Own W w' (rrA b (uintR x) :: L) := by
  rcases x with _ | s
  · have H0 : Own W w (blk b (.cells #[.bool true, .slice none 0 0, .bool true] 205) :: L) := H
    have hc := H0.cell
    rw [uintV_none, uintR_none]
    clear hx
    go_enter Tryz.func162, Tryz.ntmps162
    go_wp2_with (go_at_call 164; go_in)
    go_ret
    exact ⟨rfl, H0⟩
  · obtain ⟨A, c, H0⟩ := H.rr_open
    have hsl := hx s rfl
    have hc := H0.cell
    clear hx
    go_enter Tryz.func162, Tryz.ntmps162
    go_wp2_with (go_at_call 164; go_in)
    go_loopw [3, 4] (fun vn vi wr => ∃ i : Nat, vn = .int .u64 (ruN s i : Nat) ∧ vi = .int .i64 (i : Int) ∧ i ≤ s.length ∧ i ≤ 10 ∧ (∀ j y, j < i → s[j]? = some y → 128 ≤ y.toNat) ∧ Own W wr (blk b (.cells #[.bool true, .slice A s.length c, .bool false] 205) :: slA 1 (.slice A s.length c) s.length (s.map byteV) :: L)) (fun _ vi _ => 10 - intN vi)
    case atStart => exact ⟨0, by simp [ruN, sB], rfl, by omega, by omega, fun j y hj => by omega, H0⟩
    case round =>
      obtain ⟨i, rfl, rfl, hi, hi10, hall, HH⟩ := hrel
      have hcr := HH.cell
      have hlt : b < wr.heap.size := HH.lt
      by_cases hlt : i < s.length ∧ i < 10
      · obtain ⟨h1, h2⟩ := hlt
        obtain ⟨-, A2, c2, he, hnc, hcm, hA2⟩ := HH.front2.sl_rd
        cases he
        obtain ⟨ad, rfl, hel⟩ := hA2 (by omega)
        obtain ⟨y, hy⟩ : ∃ y, s[i]? = some y := ⟨_, List.getElem?_eq_getElem h1⟩
        have hcell := hel i (byteV y) (by simp [hy])
        change wr.cell? (ad.add i) = some (.int .u8 (y.toNat : Int)) at hcell
        have hsu := ruN_succ hy
        have hy8 := y.toNat_lt
        have HA := Lib.hid hall
        have HY := Lib.hid hy
        have hsum : IntKind.u64.wrap (((ruN s i : Nat) : Int) + IntKind.u64.wrap ((y.toNat : Int) % 128 * 2 ^ (7 * i))) = ((ruN s (i + 1) : Nat) : Int) := by
          have e : (y.toNat : Int) % 128 * 2 ^ (7 * i) = ((y.toNat % 128 * 2 ^ (7 * i) : Nat) : Int) := by push_cast; rfl
          rw [e, IntKind.wrap_u64, IntKind.wrap_u64, hsu]
          generalize y.toNat % 128 * 2 ^ (7 * i) = m
          omega
        clear hel hA2 hy hall hsu
        by_cases hterm : y.toNat < 128
        · have ht : (y.toNat : Int) < 128 := by omega
          have hli : (s.take (i + 1)).length = i + 1 := by rw [List.length_take]; omega
          have hrlt : ruN s (i + 1) < 18446744073709551616 := Nat.mod_lt _ (by decide)
          have hnum := rNumber (W := W) 9 (ruN s (i + 1)) (by omega) hrlt (by omega)
          have hrd : ∀ w', Own W w' (blk b (.cells #[.bool true, .slice (some ad) s.length c, .bool false] 205) :: slA 1 (.slice (some ad) s.length c) s.length (s.map byteV) :: L) → (convert 24 9 (.slice (some ad) (i + 1) c)).run Tryz.prog w' = .ok (.string ⟨(s.take (i + 1)).toArray⟩) w' := fun w' h =>
            RdW.conv (by have := (h.front2.sl_rd).first (h := i + 1) (by omega); rw [hli] at this ⊢; exact this) Tryz.underlying24 Tryz.underlying5 Tryz.underlying9
          have hsl2 := fun w => slice_h_eq (P := Tryz.prog) (n := s.length) (c := c) (h := i + 1) (A := some ad) (kd' := .i64) byteT (by omega) w
          have hsl3 := fun w => slice_l_eq (P := Tryz.prog) (n := s.length) (c := c) (l := i + 1) (A := some ad) (kd := .i64) byteT (by omega) w
          simp only [slP_zero, Int.natCast_add, Int.natCast_one] at hsl2 hsl3
          have hfl := fun w' (h : Own W w' (blk b (.cells #[.bool true, .slice (some ad) s.length c, .bool false] 205) :: slA 1 (.slice (some ad) s.length c) s.length (s.map byteV) :: L)) => rrFail (Own.rr_shut h)
          have HFL := Lib.hid hfl
          have HNM := Lib.hid hnum
          have HRD := Lib.hid hrd
          obtain ⟨N, hN⟩ : ∃ N, N = ruN s (i + 1) := ⟨_, rfl⟩
          rw [← hN] at hsum HNM hrlt
          have HNN := Lib.hid hN
          have hwi : IntKind.i64.wrap ((i : Int) + 1) = (i : Int) + 1 := IntWalk.i64_in _ (by omega)
          clear hfl hnum hrd hN hli
          go_wp2_with fail
          have HSd : (∀ i, wr.drew.cell? ⟨b, i, none⟩ = #[.bool true, .slice (some ad) s.length c, .bool false][i]?) ∧ (convert 24 9 (.slice (some ad) (i + 1) c)).run Tryz.prog wr.drew = .ok (.string ⟨(s.take (i + 1)).toArray⟩) wr.drew := ⟨HH.drew.cell, HRD.out _ HH.drew⟩
          refine (wpIn_wide (n := 0)).1 ?_
          refine region_flT [0, 3, 4, 5, 6, 7, 8, 9, 10] (.one 1 (.one 2 (.one 11 .nil))) [11] (fun w' => (∀ i, w'.cell? ⟨b, i, none⟩ = #[.bool true, .slice (some ad) s.length c, .bool false][i]?) ∧ (convert 24 9 (.slice (some ad) (i + 1) c)).run Tryz.prog w' = .ok (.string ⟨(s.take (i + 1)).toArray⟩) w') (fun _ => trivial) (by kernel_rfl) (by kernel_rfl) ?hS ?_
          case hS => (first | exact HSd | exact ⟨H5.drop.cell, HRD.out _ H5.drop⟩)
          apply hd_on (i := 0) rfl rfl
          · (intro w' hS; go_simp; try rfl)
          simp only [List.getElem_toArray, List.getElem_cons_succ, List.getElem_cons_zero, Act.put, List.setIfInBounds_toArray, List.set_cons_succ, List.set_cons_zero]
          apply hd_on (i := 3) rfl rfl
          · (intro w' hS; go_simp; try rfl)
          simp only [List.getElem_toArray, List.getElem_cons_succ, List.getElem_cons_zero, Act.put, List.setIfInBounds_toArray, List.set_cons_succ, List.set_cons_zero]
          apply hd_on (i := 4) rfl rfl
          · (intro w' hS; go_simp; try rfl)
          simp only [List.getElem_toArray, List.getElem_cons_succ, List.getElem_cons_zero, Act.put, List.setIfInBounds_toArray, List.set_cons_succ, List.set_cons_zero]
          apply hd_on (i := 5) rfl rfl
          · (intro w' hS; go_simp; try rfl)
          simp only [List.getElem_toArray, List.getElem_cons_succ, List.getElem_cons_zero, Act.put, List.setIfInBounds_toArray, List.set_cons_succ, List.set_cons_zero]
          apply hd_on (i := 6) rfl rfl
          · (intro w' hS; go_simp; try rfl)
          simp only [List.getElem_toArray, List.getElem_cons_succ, List.getElem_cons_zero, Act.put, List.setIfInBounds_toArray, List.set_cons_succ, List.set_cons_zero]
          apply hd_on (i := 7) rfl rfl
          · (intro w' hS; go_simp; try rfl)
          simp only [List.getElem_toArray, List.getElem_cons_succ, List.getElem_cons_zero, Act.put, List.setIfInBounds_toArray, List.set_cons_succ, List.set_cons_zero]
          apply hd_on (i := 8) rfl rfl
          · (intro w' hS; go_simp; try rfl)
          simp only [List.getElem_toArray, List.getElem_cons_succ, List.getElem_cons_zero, Act.put, List.setIfInBounds_toArray, List.set_cons_succ, List.set_cons_zero]
          apply hd_on (i := 9) rfl rfl
          · (intro w' hS; go_simp; try rfl)
          simp only [List.getElem_toArray, List.getElem_cons_succ, List.getElem_cons_zero, Act.put, List.setIfInBounds_toArray, List.set_cons_succ, List.set_cons_zero]
          apply hd_on (i := 10) rfl rfl
          · (intro w' hS; go_simp; try rfl)
          simp only [List.getElem_toArray, List.getElem_cons_succ, List.getElem_cons_zero, Act.put, List.setIfInBounds_toArray, List.set_cons_succ, List.set_cons_zero]
          refine hd_nil ?_
          refine tr_one (i := 1) (fun _ => trivial) (fun _ h => by cases h) rfl rfl (fun K hK => ?_)
          go_simp
          refine ⟨rfl, callsIn_wide.2 ((HNM.out _ _ HH.drew).mono ?_)⟩
          rintro e w5 ⟨A5, c5, rfl, H5⟩
          have hcv5 := (H5.row_rd).conv Tryz.underlying24 Tryz.underlying5 Tryz.underlying9
          refine hK _ _ ⟨fun _ => ?_, ?_⟩
          · (first | exact HSd | exact ⟨H5.drop.cell, HRD.out _ H5.drop⟩)
          clear hK K
          refine tr_one (i := 2) (fun _ => trivial) (fun _ h => by cases h) rfl rfl (fun K hK => ?_)
          go_simp
          refine hK _ _ ⟨fun _ => ?_, ?_⟩
          · (first | exact HSd | exact ⟨H5.drop.cell, HRD.out _ H5.drop⟩)
          clear hK K
          refine tr_one (i := 11) (fun _ => trivial) (fun _ h => by cases h) rfl rfl (fun K hK => ?_)
          go_simp
          refine hK _ _ ⟨fun h => by simp at h, ?_⟩
          clear hK K
          refine tr_nil ?_
          have H6 := H5.drop
          have hc6 := H6.cell
          have hf6 := H6.free
          by_cases heq : encU N = s.take (i + 1)
          · have hq : (encU N == s.take (i + 1)) = true := by rw [heq]; exact beq_self_eq_true _
            simp only [hq, Bool.not_true]
            have H7 := H6.set 1 (.slice (slP (some ad) c (i + 1) 1) (s.length - (i + 1)) (c - (i + 1)))
            have hyes := rdNum_yes (s := s) (i := i) (by rw [← HNN.out]; exact heq)
            have HYES := Lib.hid hyes
            clear heq hyes
            go_wp2_with fail
            go_ret
            rw [uintR_good HYES.out, uintV_good HYES.out, ← HNN.out]
            refine ⟨rfl, Own.rr_shut (v := .slice (slP (some ad) c (i + 1) 1) (s.length - (i + 1)) (c - (i + 1))) ?_⟩
            have H8 := (Own.sl_tail (Own.front2 H7) (l := i + 1) (by omega)).front2
            rw [List.length_drop, List.map_drop]
            simpa using H8
          · have hq : (encU N == s.take (i + 1)) = false := beq_eq_false_iff_ne.2 heq
            simp only [hq, Bool.not_false]
            have hno := rdNum_no HY.out hterm HA.out (by rw [← HNN.out]; exact heq)
            have HNO := Lib.hid hno
            clear heq hno
            go_wp2_with (go_at_call 163; refine (HFL.out _ H6).mono ?_; rintro e w1 ⟨rfl, H1⟩)
            go_ret
            rw [uintR_bad HNO.out, uintV_bad HNO.out]
            exact ⟨rfl, H1⟩
        · have ht : 128 ≤ (y.toNat : Int) := by omega
          go_wp2_with fail
          refine ⟨⟨i + 1, rfl, rfl, by omega, by omega, fun j z hj hz => ?_, HH⟩, by simp only [intN]; omega⟩
          by_cases hji : j = i
          · subst hji; rw [HY.out] at hz; cases hz; omega
          · exact HA.out j z (by omega) hz
      · have hn : rdNum s = none := rdNum_end (by omega) hall
        have HN := Lib.hid hn
        have hfl := Lib.hid (rrFail (Own.rr_shut HH))
        clear hall hn
        by_cases h1 : i < s.length
        · have h2 : ¬ i < 10 := by omega
          have h2' : 10 ≤ (i : Int) := by omega
          clear hlt
          go_wp2_with (go_at_call 163; refine hfl.out.mono ?_; rintro e w1 ⟨rfl, H1⟩)
          go_ret
          rw [uintR_bad HN.out, uintV_bad HN.out]
          exact ⟨rfl, H1⟩
        · have h1' : s.length ≤ i := by omega
          have h1'' : (s.length : Int) ≤ (i : Int) := by omega
          clear hlt
          go_wp2_with (go_at_call 163; refine hfl.out.mono ?_; rintro e w1 ⟨rfl, H1⟩)
          go_ret
          rw [uintR_bad HN.out, uintV_bad HN.out]
          exact ⟨rfl, H1⟩
end
end Sk
/- The reference of stable: records. -/
namespace Sk
open Go Go.RowKit Go.Proofs
def validP (b : Bal) (n : Int) : Prop := 1 ≤ b.r ∧ b.r ≤ 1073741824 ∧ 0 ≤ b.n ∧ b.n < n
instance validDec (b : Bal) (n : Int) : Decidable (validP b n) := by unfold validP; infer_instance
theorem good_valid (b : Bal) : b.good ↔ validP b 7 := by
  unfold Bal.good Bal.ok validP
  constructor
  · rintro ⟨h1, _, _, h2⟩
    rcases h2 with ⟨a, c⟩ | h2
    · exact absurd (by cases b; simp_all) h1
    · exact h2
  · rintro h
    refine ⟨fun e => ?_, by omega, by omega, .inr h⟩
    rw [e] at h
    have := h.1
    simp at this
section
variable {W w : World} {L : List Asn}
set_option maxRecDepth 100000 in
set_option maxHeartbeats 1000000 in
theorem validC (b : Bal) (n : Int) (w : World) : Calls Tryz.prog 151 #[b.v, ei n] w fun e w' => e = .returned (.bool (decide (validP b n))) ∧ Bel w w' := by
  by_cases h1 : 1 ≤ b.r
  · by_cases h2 : b.r ≤ 1073741824
    · by_cases h3 : 0 ≤ b.n
      · by_cases h4 : b.n < n
        · have hd : decide (validP b n) = true := decide_eq_true ⟨h1, h2, h3, h4⟩
          have HD := Lib.hid hd
          clear hd
          go_enter Tryz.func151, Tryz.ntmps151
          go_wp2
          go_ret
          exact ⟨ret_bool HD.out, (Bel.refl _).alloc _⟩
        · have hd : decide (validP b n) = false := decide_eq_false fun h => h4 h.2.2.2
          have HD := Lib.hid hd
          have h4' : n ≤ b.n := by omega
          clear hd
          go_enter Tryz.func151, Tryz.ntmps151
          go_wp2
          go_ret
          exact ⟨ret_bool HD.out, (Bel.refl _).alloc _⟩
      · have hd : decide (validP b n) = false := decide_eq_false fun h => h3 h.2.2.1
        have HD := Lib.hid hd
        have h3' : b.n < 0 := by omega
        clear hd
        go_enter Tryz.func151, Tryz.ntmps151
        go_wp2
        go_ret
        exact ⟨ret_bool HD.out, (Bel.refl _).alloc _⟩
    · have hd : decide (validP b n) = false := decide_eq_false fun h => h2 h.2.1
      have HD := Lib.hid hd
      have h2' : 1073741824 < b.r := by omega
      clear hd
      go_enter Tryz.func151, Tryz.ntmps151
      go_wp2
      go_ret
      exact ⟨ret_bool HD.out, (Bel.refl _).alloc _⟩
  · have hd : decide (validP b n) = false := decide_eq_false fun h => h1 h.1
    have HD := Lib.hid hd
    have h1' : b.r < 1 := by omega
    clear hd
    go_enter Tryz.func151, Tryz.ntmps151
    go_wp2
    go_ret
    exact ⟨ret_bool HD.out, (Bel.refl _).alloc _⟩
set_option maxHeartbeats 1000000 in
theorem rGood (b : Bal) (w : World) : Calls Tryz.prog 68 #[b.v] w fun e w' => e = .returned (.bool (decide b.good)) ∧ Bel w w' := by
  have hd : decide b.good = decide (validP b 7) := by simp [good_valid]
  have HD := Lib.hid hd
  clear hd
  go_enter Tryz.func68, Tryz.ntmps68
  go_wp2_with (go_at_call 151; refine (validC b 7 _).mono ?_; rintro e w1 ⟨rfl, hb⟩)
  go_ret
  exact ⟨ret_bool HD.out, ((Bel.refl _).alloc _).trans hb⟩
set_option maxHeartbeats 1000000 in
theorem rIsSlot (n : Int) (w : World) : Calls Tryz.prog 74 #[ei n] w fun e w' => e = .returned (.bool (decide (isSlot n))) ∧ w = w' := by
  by_cases h1 : 0 ≤ n
  · by_cases h2 : n < 4096
    · have HD := Lib.hid (show decide (isSlot n) = true from decide_eq_true ⟨h1, h2⟩)
      go_enter Tryz.func74, Tryz.ntmps74
      go_wp2
      go_ret
      exact ⟨ret_bool HD.out, rfl⟩
    · have HD := Lib.hid (show decide (isSlot n) = false from decide_eq_false fun h => h2 h.2)
      have h2' : 4096 ≤ n := by omega
      go_enter Tryz.func74, Tryz.ntmps74
      go_wp2
      go_ret
      exact ⟨ret_bool HD.out, rfl⟩
  · have HD := Lib.hid (show decide (isSlot n) = false from decide_eq_false fun h => h1 h.1)
    have h1' : n < 0 := by omega
    go_enter Tryz.func74, Tryz.ntmps74
    go_wp2
    go_ret
    exact ⟨ret_bool HD.out, rfl⟩
set_option maxRecDepth 100000 in
set_option maxHeartbeats 1000000 in
theorem rShort {b : Nat} {s : List UInt8} (H : Own W w (rwA b s :: L)) (hs : s.length ≤ 1099511627776) : Calls Tryz.prog 71 #[ptr b] w (RetRec W L (shortP s)) := by
  have hln := rwLen H hs
  by_cases h : s.length ≤ 65536
  · have h' : (s.length : Int) ≤ 65536 := by omega
    have h2 : ¬ (65536 < (s.length : Int)) := by omega
    rw [shortP_yes h']
    go_enter Tryz.func71, Tryz.ntmps71
    go_wp2_with (first | (go_at_call 154; refine hln.mono ?_; rintro e w1 ⟨rfl, H1⟩) | (go_at_call 155; refine (rwBytes H1 hs).mono ?_; rintro e w2 ⟨A, c, rfl, H2⟩))
    go_ret2
    exact ⟨_, rfl, H2.drop2⟩
  · have h' : 65536 < (s.length : Int) := by omega
    rw [shortP_no h']
    go_enter Tryz.func71, Tryz.ntmps71
    go_wp2_with (first | (go_at_call 154; refine hln.mono ?_; rintro e w1 ⟨rfl, H1⟩))
    go_ret2
    exact ⟨_, rfl, H1.drop.row_nil _ _⟩
theorem encI_eq (n : Int) : encU (uN n) = encI n := rfl
theorem encL_cons (a : Int) (l : List Int) : encL (a :: l) = encI a ++ encL l := by simp [encL]
set_option maxRecDepth 100000 in
theorem encI_len2 (n : Int) : (encI n).length ≤ 10 := encI_len n
set_option maxRecDepth 100000 in
set_option maxHeartbeats 1000000 in
theorem rPromise (H : Own W w L) (b : Bal) : Calls Tryz.prog 11 #[b.v] w (RetRec W L (promP b)) := by
  have H1 := H.alloc (.cells #[.int .i64 b.r, .int .i64 b.n] 23)
  have hlt1 : w.heap.size < w.heap.size + 1 := by omega
  by_cases hg : b.good
  · have hg' := decide_eq_true hg
    have e : promP b = shortP (encL [1, b.r, b.n]) := if_pos hg
    rw [e]
    have l1 := encI_len b.r
    have l2 := encI_len b.n
    clear hg e
    go_enter Tryz.func11, Tryz.ntmps11
    go_wp2_with fail
    refine (rGood b _).mono ?_
    rintro e w1 ⟨rfl, hb⟩
    have H2 := H1.grown hb
    have hc2 := H2.cell
    go_wp2_with fail
    refine (rwNew H2).mono ?_
    rintro e w2 ⟨g, rfl, H3⟩
    have hc3 := H3.front2.cell
    go_wp2_with fail
    refine (rwUint H3 1 (by omega) (by simp)).mono ?_
    rintro e w3 ⟨rfl, H4⟩
    have hc4 := H4.front2.cell
    go_wp2_with fail
    rw [wrap_uN]
    refine (rwUint H4 (uN b.r) (uN_lt _) (by simp [encU, encN_lt])).mono ?_
    rintro e w4 ⟨rfl, H5⟩
    have hc5 := H5.front2.cell
    go_wp2_with fail
    rw [wrap_uN]
    refine (rwUint H5 (uN b.n) (uN_lt _) (by rw [encI_eq]; simp [encU, encN_lt]; omega)).mono ?_
    rintro e w5 ⟨rfl, H6⟩
    have he : [] ++ encU 1 ++ encU (uN b.r) ++ encU (uN b.n) = encL [1, b.r, b.n] := by simp [encL, encI, uN]
    rw [he] at H6
    have hle := encL_len [1, b.r, b.n]
    clear he
    go_wp2_with fail
    refine (rShort H6 (by simp at hle; omega)).mono ?_
    rintro e w6 ⟨v, rfl, H7⟩
    go_wp2_with fail
    go_ret2
    exact ⟨_, rfl, H7.drop2⟩
  · have hg' := decide_eq_false hg
    have e : promP b = (2, []) := if_neg hg
    rw [e]
    clear hg e
    go_enter Tryz.func11, Tryz.ntmps11
    go_wp2_with fail
    refine (rGood b _).mono ?_
    rintro e w1 ⟨rfl, hb⟩
    go_wp2_with fail
    go_ret2
    exact ⟨_, rfl, (H1.grown hb).drop.row_nil _ _⟩
set_option maxRecDepth 100000 in
set_option maxHeartbeats 1000000 in
theorem rAccept (H : Own W w L) (b : Bal) (slot : Int) (t : ByteArray) (ht : t.size ≤ 100000) : Calls Tryz.prog 13 #[b.v, ei slot, .string t] w (RetRec W L (accP b slot t)) := by
  have H1 := H.alloc (.cells #[.int .i64 b.r, .int .i64 b.n] 23)
  by_cases hg : b.good
  · have hg' := decide_eq_true hg
    by_cases hs : isSlot slot
    · have hs' := decide_eq_true hs
      have e : accP b slot t = shortP (encL [2, b.r, b.n, slot] ++ encU t.size ++ t.data.toList) := if_pos ⟨hg, hs⟩
      rw [e]
      have l1 := encI_len b.r
      have l2 := encI_len b.n
      have l3 := encI_len slot
      clear hg e hs
      go_enter Tryz.func13, Tryz.ntmps13
      go_wp2_with (first | (go_at_call 68; refine (rGood b _).mono ?_; rintro e w1 ⟨rfl, hb⟩) | (go_at_call 74; refine (rIsSlot slot _).mono ?_; rintro e w' ⟨rfl, rfl⟩) | (go_at_call 69; refine (rwNew (H1.grown hb)).mono ?_; rintro e w2 ⟨g, rfl, H3⟩; have hc3 := H3.front2.cell))
      refine (rwUint H3 2 (by omega) (by simp)).mono ?_
      rintro e w3 ⟨rfl, H4⟩
      have hc4 := H4.front2.cell
      go_wp2_with fail
      rw [wrap_uN]
      refine (rwUint H4 (uN b.r) (uN_lt _) (by simp [encU, encN_lt])).mono ?_
      rintro e w4 ⟨rfl, H5⟩
      have hc5 := H5.front2.cell
      go_wp2_with fail
      rw [wrap_uN]
      refine (rwUint H5 (uN b.n) (uN_lt _) (by rw [encI_eq]; simp [encU, encN_lt]; omega)).mono ?_
      rintro e w5 ⟨rfl, H6⟩
      go_wp2_with fail
      rw [wrap_uN]
      refine (rwUint H6 (uN slot) (uN_lt _) (by rw [encI_eq, encI_eq]; simp [encU, encN_lt]; omega)).mono ?_
      rintro e w6 ⟨rfl, H7⟩
      have he : [] ++ encU 2 ++ encU (uN b.r) ++ encU (uN b.n) ++ encU (uN slot) = encL [2, b.r, b.n, slot] := by simp [encL, encI, uN]
      rw [he] at H7
      have hle := encL_len [2, b.r, b.n, slot]
      clear he
      go_wp2_with fail
      refine (rwText H7 t (by simp at hle ⊢; omega) (by omega)).mono ?_
      rintro e w7 ⟨rfl, H8⟩
      have hlt := Nat.le_trans (Nat.le_of_eq (show (encU t.size).length = (encN t.size).length by simp [encU])) (encN_len 9 t.size (by omega))
      go_wp2_with fail
      refine (rShort H8 (by have hd : t.data.toList.length = t.size := Array.length_toList; rw [List.length_append, List.length_append]; simp at hle ⊢; omega)).mono ?_
      rintro e w8 ⟨v, rfl, H9⟩
      go_wp2_with fail
      go_ret2
      exact ⟨v, by first | rfl | (rw [List.append_assoc]; rfl), by first | exact H9.drop2 | exact H9⟩
    · have hs' := decide_eq_false hs
      have e : accP b slot t = (2, []) := if_neg fun h => hs h.2
      rw [e]
      clear hg e hs
      go_enter Tryz.func13, Tryz.ntmps13
      go_wp2_with (first | (go_at_call 68; refine (rGood b _).mono ?_; rintro e w1 ⟨rfl, hb⟩) | (go_at_call 74; refine (rIsSlot slot _).mono ?_; rintro e w' ⟨rfl, rfl⟩))
      go_ret2
      exact ⟨_, rfl, (H1.grown hb).drop.row_nil _ _⟩
  · have hg' := decide_eq_false hg
    have e : accP b slot t = (2, []) := if_neg fun h => hg h.1
    rw [e]
    clear hg e
    go_enter Tryz.func13, Tryz.ntmps13
    go_wp2_with (first | (go_at_call 68; refine (rGood b _).mono ?_; rintro e w1 ⟨rfl, hb⟩))
    go_ret2
    exact ⟨_, rfl, (H1.grown hb).drop.row_nil _ _⟩
set_option maxRecDepth 100000 in
set_option maxHeartbeats 1000000 in
theorem rChoose (H : Own W w L) (slot : Int) (t : ByteArray) (ht : t.size ≤ 100000) : Calls Tryz.prog 15 #[ei slot, .string t] w (RetRec W L (chooseP slot t)) := by
  by_cases hs : isSlot slot
  · have hs' := decide_eq_true hs
    have e : chooseP slot t = shortP (encL [3, slot] ++ encU t.size ++ t.data.toList) := if_pos hs
    rw [e]
    have l3 := encI_len slot
    clear e hs
    go_enter Tryz.func15, Tryz.ntmps15
    go_wp2_with (first | (go_at_call 74; refine (rIsSlot slot _).mono ?_; rintro e w' ⟨rfl, rfl⟩) | (go_at_call 69; refine (rwNew H).mono ?_; rintro e w2 ⟨g, rfl, H3⟩))
    refine (rwUint H3 3 (by omega) (by simp)).mono ?_
    rintro e w3 ⟨rfl, H4⟩
    go_wp2_with fail
    rw [wrap_uN]
    refine (rwUint H4 (uN slot) (uN_lt _) (by simp [encU, encN_lt])).mono ?_
    rintro e w4 ⟨rfl, H7⟩
    have he : [] ++ encU 3 ++ encU (uN slot) = encL [3, slot] := by simp [encL, encI, uN]
    rw [he] at H7
    have hle := encL_len [3, slot]
    clear he
    go_wp2_with fail
    refine (rwText H7 t (by simp at hle ⊢; omega) (by omega)).mono ?_
    rintro e w7 ⟨rfl, H8⟩
    have hlt := Nat.le_trans (Nat.le_of_eq (show (encU t.size).length = (encN t.size).length by simp [encU])) (encN_len 9 t.size (by omega))
    go_wp2_with fail
    refine (rShort H8 (by have hd : t.data.toList.length = t.size := Array.length_toList; rw [List.length_append, List.length_append]; simp at hle ⊢; omega)).mono ?_
    rintro e w8 ⟨v, rfl, H9⟩
    go_wp2_with fail
    go_ret2
    exact ⟨v, by first | rfl | (rw [List.append_assoc]; rfl), by first | exact H9.drop2 | exact H9⟩
  · have hs' := decide_eq_false hs
    have e : chooseP slot t = (2, []) := if_neg hs
    rw [e]
    clear e hs
    go_enter Tryz.func15, Tryz.ntmps15
    go_wp2_with (first | (go_at_call 74; refine (rIsSlot slot _).mono ?_; rintro e w' ⟨rfl, rfl⟩))
    go_ret2
    exact ⟨_, rfl, H.row_nil _ _⟩
end
end Sk
/- The reference of wire: Text; the reference of stable: small, ballot. -/
namespace Sk
open Go Go.RowKit Go.Proofs
attribute [local go_sem ↓] append_hide slice_hide
theorem rdText_bind {s : List UInt8} {n : Nat} {r : List UInt8} (h : rdNum s = some (n, r)) (hn : n ≤ 65536 ∧ n ≤ r.length) : textV (some s) = r.take n ∧ textR (some s) = some (r.drop n) := by
  have := rdText_good h hn
  exact ⟨textV_good this, textR_good this⟩
theorem rdText_nobind {s : List UInt8} {n : Nat} {r : List UInt8} (h : rdNum s = some (n, r)) (hn : ¬ (n ≤ 65536 ∧ n ≤ r.length)) : textV (some s) = [] ∧ textR (some s) = none := by
  have := rdText_bad h hn
  exact ⟨textV_bad this, textR_bad this⟩
theorem rdText_nonum {s : List UInt8} (h : rdNum s = none) : textV (some s) = [] ∧ textR (some s) = none := by
  have := rdText_none h
  exact ⟨textV_bad this, textR_bad this⟩
theorem rdNum_rest {s r : List UInt8} {n : Nat} (h : rdNum s = some (n, r)) : r.length ≤ s.length := by
  obtain ⟨_, h2, _⟩ := rdNum_some h
  rw [h2, List.length_append]; omega
section
variable {W w : World} {L : List Asn} {b : Nat} {s : List UInt8}
set_option maxRecDepth 100000 in
set_option maxHeartbeats 4000000 in
theorem rrText {x : Option (List UInt8)} (H : Own W w (rrA b x :: L)) (hx : ∀ s, x = some s → s.length ≤ 1099511627776) :
    Calls Tryz.prog 80 #[ptr b] w fun e w' => e = .returned (.string ⟨(textV x).toArray⟩) ∧ Own W w' (rrA b (textR x) :: L) := by
  have hui := Lib.hid (rrUint H hx)
  have bad : ∀ {w1}, uintR x = none → Own W w1 (rrA b none :: L) → textV x = [] ∧ textR x = none := by
    intro w1 h _
    rcases x with _ | s
    · exact ⟨rfl, rfl⟩
    · rcases hn : rdNum s with _ | ⟨n, r⟩
      · exact rdText_nonum hn
      · rw [uintR_good hn] at h; cases h
  rcases hr : uintR x with _ | r
  · rw [hr] at hui
    have HB := Lib.hid (fun w1 => bad (w1 := w1) hr)
    have HX := Lib.hid hx
    clear hx bad hr
    go_enter Tryz.func80, Tryz.ntmps80
    go_wp2_with fail
    refine hui.out.mono ?_
    rintro e w1 ⟨rfl, H1⟩
    have hc1 : ∀ i, w1.cell? ⟨b, i, none⟩ = #[.bool true, .slice none 0 0, .bool true][i]? := Own.cell (show Own W w1 (blk b (.cells #[.bool true, .slice none 0 0, .bool true] 205) :: L) from H1)
    go_wp2_with (go_at_call 164; go_in)
    go_ret
    obtain ⟨e1, e2⟩ := HB.out w1 H1
    rw [e1, e2]
    exact ⟨rfl, H1⟩
  · obtain ⟨s, rfl⟩ : ∃ s, x = some s := by
      cases x with
      | none => cases hr
      | some s => exact ⟨s, rfl⟩
    rcases hn : rdNum s with _ | ⟨n, r'⟩
    · rw [uintR_bad hn] at hr; cases hr
    · have hrr : r' = r := by rw [uintR_good hn] at hr; cases hr; rfl
      subst hrr
      rw [uintR_good hn, uintV_good hn] at hui
      have hrl := rdNum_rest hn
      have hsl := hx s rfl
      have hnlt := (rdNum_some hn).1
      have HN := Lib.hid hn
      clear hx bad hr hn
      have hw : IntKind.u64.wrap ((r'.length : Nat) : Int) = ((r'.length : Nat) : Int) := wrapu_nat (by omega)
      by_cases h1 : n ≤ 65536
      · have q1 : (n : Int) ≤ 65536 := by omega
        by_cases h2 : n ≤ r'.length
        · have q2 : (n : Int) ≤ (r'.length : Int) := by omega
          go_enter Tryz.func80, Tryz.ntmps80
          go_wp2_with fail
          refine hui.out.mono ?_
          rintro e w1 ⟨rfl, H1⟩
          obtain ⟨A, c, H2⟩ := H1.rr_open
          have hc1 := H2.cell
          have hf1 := H2.free
          obtain ⟨_, _, _, e0, hnc, hcm, _⟩ := H2.front2.sl_rd
          cases e0
          have hsl2 := fun w => slice_h_eq (P := Tryz.prog) (n := r'.length) (c := c) (h := n) (A := A) (kd' := .u64) byteT (by omega) w
          have hsl3 := fun w => slice_l_eq (P := Tryz.prog) (n := r'.length) (c := c) (l := n) (A := A) (kd := .u64) byteT h2 w
          simp only [slP_zero] at hsl2
          have htl : (r'.take n).length = n := by rw [List.length_take]; omega
          have hcv : (convert 24 9 (.slice A n c)).run Tryz.prog w1 = .ok (.string ⟨(r'.take n).toArray⟩) w1 := RdW.conv (by have := (H2.front2.sl_rd).first (h := n) h2; rw [htl] at this ⊢; exact this) Tryz.underlying24 Tryz.underlying5 Tryz.underlying9
          have H3 := H2.set 1 (.slice (slP A c n 1) (r'.length - n) (c - n))
          go_wp2_with (go_at_call 164; go_in)
          go_ret
          obtain ⟨e1, e2⟩ := rdText_bind HN.out ⟨h1, h2⟩
          rw [e1, e2]
          refine ⟨rfl, Own.rr_shut (v := .slice (slP A c n 1) (r'.length - n) (c - n)) ?_⟩
          have H8 := (Own.sl_tail (Own.front2 H3) (l := n) h2).front2
          rw [List.length_drop, List.map_drop]
          simpa using H8
        · have q2 : (r'.length : Int) < (n : Int) := by omega
          go_enter Tryz.func80, Tryz.ntmps80
          go_wp2_with fail
          refine hui.out.mono ?_
          rintro e w1 ⟨rfl, H1⟩
          obtain ⟨A, c, H2⟩ := H1.rr_open
          have hc1 := H2.cell
          go_wp2_with (first | (go_at_call 164; go_in) | (go_at_call 163; refine (rrFail H1).mono ?_; rintro e w2 ⟨rfl, H3⟩))
          go_ret
          obtain ⟨e1, e2⟩ := rdText_nobind HN.out fun h => h2 h.2
          rw [e1, e2]
          exact ⟨rfl, H3⟩
      · have q1 : 65536 < (n : Int) := by omega
        go_enter Tryz.func80, Tryz.ntmps80
        go_wp2_with fail
        refine hui.out.mono ?_
        rintro e w1 ⟨rfl, H1⟩
        obtain ⟨A, c, H2⟩ := H1.rr_open
        have hc1 := H2.cell
        go_wp2_with (first | (go_at_call 164; go_in) | (go_at_call 163; refine (rrFail H1).mono ?_; rintro e w2 ⟨rfl, H3⟩))
        go_ret
        obtain ⟨e1, e2⟩ := rdText_nobind HN.out fun h => h1 h.1
        rw [e1, e2]
        exact ⟨rfl, H3⟩
end
end Sk
/- The reference of stable: Parse. -/
namespace Sk
open Go Go.RowKit Go.Proofs
def smV (x : Option (List UInt8)) (most : Nat) : Nat := if uintV x ≤ most then uintV x else 0
def smR (x : Option (List UInt8)) (most : Nat) : Option (List UInt8) := if uintV x ≤ most then uintR x else none
theorem smV_le (x : Option (List UInt8)) (most : Nat) : smV x most ≤ most := by unfold smV; split <;> omega
def Sh (x : Option (List UInt8)) : Prop := ∀ s, x = some s → s.length ≤ 1099511627776
theorem Sh.none : Sh none := fun _ h => by cases h
theorem Sh.uintR {x : Option (List UInt8)} (h : Sh x) : Sh (Sk.uintR x) := by
  intro r hr
  rcases x with _ | s
  · cases hr
  · rcases hn : rdNum s with _ | ⟨n, r'⟩
    · rw [uintR_bad hn] at hr; cases hr
    · rw [uintR_good hn] at hr; cases hr
      have := rdNum_rest hn
      have := h s rfl
      omega
theorem Sh.smR {x : Option (List UInt8)} (h : Sh x) (m : Nat) : Sh (Sk.smR x m) := by
  unfold Sk.smR; split
  · exact h.uintR
  · exact Sh.none
section
variable {W w : World} {L : List Asn} {b : Nat}
set_option maxRecDepth 100000 in
set_option maxHeartbeats 1000000 in
theorem rSmall {x : Option (List UInt8)} (H : Own W w (rrA b x :: L)) (hx : Sh x) (most : Nat) (hm : most ≤ 1073741824) :
    Calls Tryz.prog 78 #[ptr b, .int .u64 (most : Int)] w fun e w' => e = .returned (ei (smV x most : Nat)) ∧ Own W w' (rrA b (smR x most) :: L) := by
  have hui := Lib.hid (rrUint H hx)
  by_cases h : uintV x ≤ most
  · have e1 : smV x most = uintV x := if_pos h
    have e2 : smR x most = uintR x := if_pos h
    rw [e1, e2]
    have hw : IntKind.i64.wrap ((uintV x : Nat) : Int) = ((uintV x : Nat) : Int) := wrap_nat (by omega)
    obtain ⟨n, hn⟩ : ∃ n, n = uintV x := ⟨_, rfl⟩
    rw [← hn] at hui hw ⊢ h
    have q : (n : Int) ≤ (most : Int) := by omega
    clear e1 e2 hn
    go_enter Tryz.func78, Tryz.ntmps78
    go_wp2_with (go_at_call 162; refine hui.out.mono ?_; rintro e w1 ⟨rfl, H1⟩)
    go_ret
    exact ⟨rfl, H1⟩
  · have e1 : smV x most = 0 := if_neg h
    have e2 : smR x most = none := if_neg h
    rw [e1, e2]
    obtain ⟨n, hn⟩ : ∃ n, n = uintV x := ⟨_, rfl⟩
    rw [← hn] at hui h
    have q : (most : Int) < (n : Int) := by omega
    clear e1 e2 hn
    go_enter Tryz.func78, Tryz.ntmps78
    go_wp2_with (first | (go_at_call 162; refine hui.out.mono ?_; rintro e w1 ⟨rfl, H1⟩) | (go_at_call 163; refine (rrFail H1).mono ?_; rintro e w2 ⟨rfl, H2⟩))
    go_ret
    exact ⟨rfl, H2⟩
def rbV (x : Option (List UInt8)) : Bal := ⟨smV x 1073741824, smV (smR x 1073741824) 6⟩
def rbR (x : Option (List UInt8)) : Option (List UInt8) := smR (smR x 1073741824) 6
set_option maxRecDepth 100000 in
set_option maxHeartbeats 1000000 in
theorem rBallot {x : Option (List UInt8)} (H : Own W w (rrA b x :: L)) (hx : Sh x) :
    Calls Tryz.prog 79 #[ptr b] w fun e w' => e = .returned (rbV x).v ∧ Own W w' (rrA b (rbR x) :: L) := by
  have H0 := (H.alloc (.cells #[ei 0, ei 0] 23)).front2
  have h1 := Lib.hid (rSmall H0 hx 1073741824 (by decide))
  have h2 := Lib.hid (fun w' (h : Own W w' (rrA b (smR x 1073741824) :: blk w.heap.size (.cells #[ei 0, ei 0] 23) :: L)) => rSmall h (hx.smR _) 6 (by decide))
  have hv : (rbV x).v = .agg #[ei (smV x 1073741824 : Nat), ei (smV (smR x 1073741824) 6 : Nat)] := rfl
  rw [hv]
  rw [show rbR x = smR (smR x 1073741824) 6 from rfl]
  generalize smV x 1073741824 = p at *
  generalize smV (smR x 1073741824) 6 = q at *
  clear hv
  go_enter Tryz.func79, Tryz.ntmps79
  go_wp2_with fail
  refine h1.out.mono ?_
  rintro e w1 ⟨rfl, H1⟩
  have hc1 := H1.front2.cell
  have hf1 := H1.front2.free
  go_wp2_with fail
  refine (h2.out _ H1).mono ?_
  rintro e w2 ⟨rfl, H2⟩
  have hc2 := H2.front2.cell
  have hf2 := H2.front2.free
  have H3 := (H2.front2.set 0 (ei p)).set 1 (ei q)
  have hc3 := H3.cell
  go_wp2_with fail
  refine bodyPost_ret (v := .agg #[ei p, ei q]) (by simp [results, Tryz.results79, go_sem, hc3]) rfl ?_
  exact ⟨rfl, H3.drop⟩
end
theorem endP_iff (x : Option (List UInt8)) : endP x = 0 ↔ x = some [] := by
  unfold endP
  split
  · simp
  · rename_i h
    constructor
    · intro h2; exact absurd h2 (by decide)
    · intro h2; exact absurd h2 h
theorem smR_none (m : Nat) : smR none m = none := by unfold smR; split <;> rfl
theorem rb_ok {x : Option (List UInt8)} (h : balOk x) : rbV x = balV x ∧ rbR x = uintR (uintR x) := by
  unfold rbV rbR balV
  have e1 : smV x 1073741824 = uintV x := if_pos h.1
  have e2 : smR x 1073741824 = uintR x := if_pos h.1
  have e3 : smV (uintR x) 6 = uintV (uintR x) := if_pos h.2
  have e4 : smR (uintR x) 6 = uintR (uintR x) := if_pos h.2
  rw [e1, e2, e3, e4]
  exact ⟨rfl, rfl⟩
theorem rb_no {x : Option (List UInt8)} (h : ¬ balOk x) : rbR x = none := by
  unfold rbR
  by_cases h1 : uintV x ≤ 1073741824
  · have e2 : smR x 1073741824 = uintR x := if_pos h1
    rw [e2]
    exact if_neg fun h2 => h ⟨h1, h2⟩
  · have e2 : smR x 1073741824 = none := if_neg h1
    rw [e2]; exact smR_none 6
theorem textR_none : textR none = none := rfl
theorem sm3 {s : List UInt8} {k : Nat} (h : smV (some s) 3 = k) (hk : k ≠ 0) : uintV (some s) = k ∧ smR (some s) 3 = uintR (some s) := by
  unfold smV at h
  split at h
  · rename_i h3; exact ⟨h, if_pos h3⟩
  · exact absurd h.symm hk
theorem parseP_some {s : List UInt8} : parseP s = if s.length ≤ 65536 then (match flow (some s) with | some (r, some []) => some r | _ => none) else none := rfl
theorem parse_flow {s : List UInt8} {r : Rec} {x : Option (List UInt8)} (h : flow (some s) = some (r, x)) : parseP s = if s.length ≤ 65536 ∧ endP x = 0 then some r else none := by
  by_cases hl : s.length ≤ 65536
  · by_cases hx : endP x = 0
    · rw [if_pos ⟨hl, hx⟩]
      rw [endP_iff] at hx
      rw [hx] at h
      exact parseP_ok hl h
    · rw [if_neg fun h => hx h.2]
      exact parseP_rest h fun h => hx ((endP_iff x).2 h)
  · rw [if_neg fun h => hl h.1]
    exact parseP_long hl
theorem pp0 {s : List UInt8} (h : smV (some s) 3 = 0) : parseP s = none := by
  refine parseP_panic ?_
  unfold smV at h
  unfold flow
  split at h
  · rw [if_neg (by omega), if_neg (by omega), if_neg (by omega)]
  · rw [if_neg (by omega), if_neg (by omega), if_neg (by omega)]
theorem pp1 {s : List UInt8} (h : smV (some s) 3 = 1) : parseP s = if s.length ≤ 65536 ∧ (rbV (smR (some s) 3)).good ∧ endP (rbR (smR (some s) 3)) = 0 then some ⟨1, rbV (smR (some s) 3), 0, []⟩ else none := by
  obtain ⟨h1, h2⟩ := sm3 h (by decide)
  rw [h2]
  by_cases hb : balOk (uintR (some s))
  · obtain ⟨e1, e2⟩ := rb_ok hb
    rw [e1, e2]
    by_cases hg : (balV (uintR (some s))).good
    · rw [parse_flow (flow_1 h1 ⟨hb, hg⟩)]
      by_cases hl : s.length ≤ 65536 ∧ endP (uintR (uintR (uintR (some s)))) = 0
      · rw [if_pos hl, if_pos ⟨hl.1, hg, hl.2⟩]
      · rw [if_neg hl, if_neg fun h => hl ⟨h.1, h.2.2⟩]
    · rw [if_neg fun h => hg h.2.1]
      exact parseP_panic (flow_1n h1 fun h => hg h.2)
  · rw [rb_no hb, if_neg fun h => by have := h.2.2; simp [endP] at this]
    exact parseP_panic (flow_1n h1 fun h => hb h.1)
theorem pp2 {s : List UInt8} (h : smV (some s) 3 = 2) : parseP s = if s.length ≤ 65536 ∧ (rbV (smR (some s) 3)).good ∧ endP (textR (smR (rbR (smR (some s) 3)) 4095)) = 0 then some ⟨2, rbV (smR (some s) 3), smV (rbR (smR (some s) 3)) 4095, textV (smR (rbR (smR (some s) 3)) 4095)⟩ else none := by
  obtain ⟨h1, h2⟩ := sm3 h (by decide)
  rw [h2]
  have hf2 : ∀ h, flow (some s) = none → h = none → parseP s = (h : Option Rec) := fun _ hf e => by rw [e]; exact parseP_panic hf
  by_cases hb : balOk (uintR (some s))
  · obtain ⟨e1, e2⟩ := rb_ok hb
    rw [e1, e2]
    by_cases hs : uintV (uintR (uintR (uintR (some s)))) ≤ 4095
    · have e3 : smV (uintR (uintR (uintR (some s)))) 4095 = uintV (uintR (uintR (uintR (some s)))) := if_pos hs
      have e4 : smR (uintR (uintR (uintR (some s)))) 4095 = uintR (uintR (uintR (uintR (some s)))) := if_pos hs
      rw [e3, e4]
      by_cases hg : (balV (uintR (some s))).good
      · rw [parse_flow (flow_2 h1 ⟨hb, hg, hs⟩)]
        by_cases hl : s.length ≤ 65536 ∧ endP (textR (uintR (uintR (uintR (uintR (some s)))))) = 0
        · rw [if_pos hl, if_pos ⟨hl.1, hg, hl.2⟩]
        · rw [if_neg hl, if_neg fun h => hl ⟨h.1, h.2.2⟩]
      · rw [if_neg fun h => hg h.2.1]
        refine parseP_panic ?_
        unfold flow
        rw [if_neg (by omega), if_pos h1, if_neg fun h => hg h.2.1]
    · have e4 : smR (uintR (uintR (uintR (some s)))) 4095 = none := if_neg hs
      rw [e4, textR_none, if_neg fun h => by have := h.2.2; simp [endP] at this]
      refine parseP_panic ?_
      unfold flow
      rw [if_neg (by omega), if_pos h1, if_neg fun h => hs h.2.2]
  · rw [rb_no hb, smR_none, textR_none, if_neg fun h => by have := h.2.2; simp [endP] at this]
    refine parseP_panic ?_
    unfold flow
    rw [if_neg (by omega), if_pos h1, if_neg fun h => hb h.1]
theorem pp3 {s : List UInt8} (h : smV (some s) 3 = 3) : parseP s = if s.length ≤ 65536 ∧ endP (textR (smR (smR (some s) 3) 4095)) = 0 then some ⟨3, Bal.zero, smV (smR (some s) 3) 4095, textV (smR (smR (some s) 3) 4095)⟩ else none := by
  obtain ⟨h1, h2⟩ := sm3 h (by decide)
  rw [h2]
  by_cases hs : uintV (uintR (some s)) ≤ 4095
  · have e3 : smV (uintR (some s)) 4095 = uintV (uintR (some s)) := if_pos hs
    have e4 : smR (uintR (some s)) 4095 = uintR (uintR (some s)) := if_pos hs
    rw [e3, e4]
    have hf : flow (some s) = some (⟨3, Bal.zero, uintV (uintR (some s)), textV (uintR (uintR (some s)))⟩, textR (uintR (uintR (some s)))) := by
      unfold flow
      rw [if_neg (by omega), if_neg (by omega), if_pos h1, if_pos hs]
    rw [parse_flow hf]
  · have e4 : smR (uintR (some s)) 4095 = none := if_neg hs
    rw [e4, textR_none, if_neg fun h => by have := h.2; simp [endP] at this]
    refine parseP_panic ?_
    unfold flow
    rw [if_neg (by omega), if_neg (by omega), if_pos h1, if_neg hs]
section
variable {W w : World} {L : List Asn}
def parseRF (k : Nat) (b : Bal) (slot : Nat) (v : List UInt8) : Value := .tuple #[ei k, b.v, ei slot, .string ⟨v.toArray⟩, ei 0]
def parseRN : Value := .tuple #[ei 0, Bal.zero.v, ei 0, .string ⟨#[]⟩, ei 10]
theorem parseR_if {p : Prop} [Decidable p] {r : Rec} : parseR (if p then some r else none) = if p then parseRF r.kind r.b r.slot r.value else parseRN := by
  split <;> rfl
set_option maxRecDepth 100000 in
set_option maxHeartbeats 8000000 in
theorem rParse {v : Value} {s : List UInt8} (H : Own W w L) (hr : RdW w 1 v s.length (s.map byteV)) (hn : s.length ≤ 1000000) :
    Calls Tryz.prog 19 #[v] w fun e w' => e = .returned (parseR (parseP s)) ∧ Own W w' L := by
  have H1 := H.alloc (.cells #[ei 0, ei 0] 23)
  have hrd := Lib.hid (rrRead H1 (hr.alloc _) (by omega))
  have hsh : Sh (some s) := fun t ht => by cases ht; omega
  have hsm := Lib.hid (fun (w' : World) (L' : List Asn) (b : Nat) (h : Own W w' (rrA b (some s) :: L')) => rSmall h hsh 3 (by decide))
  obtain ⟨A, c, rfl, _⟩ := hr.form
  have hk3 := smV_le (some s) 3
  obtain ⟨x1, hx1⟩ : ∃ x1, x1 = smR (some s) 3 := ⟨_, rfl⟩
  have hsx : Sh x1 := hx1 ▸ hsh.smR 3
  rw [← hx1] at hsm
  rcases hk : smV (some s) 3 with _ | _ | _ | _ | k
  · have hp := pp0 hk
    rw [hk] at hsm
    have HP := Lib.hid hp
    clear hk hp hr hx1
    by_cases hl : s.length ≤ 65536
    · have hl' : (s.length : Int) ≤ 65536 := by omega
      go_enter Tryz.func19, Tryz.ntmps19
      go_wp2_with fail
      refine hrd.out.mono ?_
      rintro e w1 ⟨b, rfl, H2⟩
      go_wp2_with fail
      refine (hsm.out _ _ _ H2).mono ?_
      rintro e w2 ⟨rfl, H3⟩
      have hc2 := H3.front2.cell
      have hf2 := H3.front2.free
      have hlt2 := H3.front2.lt
      have hlt3 : w.heap.size < w2.heap.size + 1 := by omega
      have Hz := ((H3.front2.set 0 (ei 0)).set 1 (ei 0)).skip (.cells #[ei 0, ei 0] 23)
      have hz := Hz.cell
      go_wp2_with fail
      refine bodyPost_ret (v := parseRN) (by simp [results, Tryz.results19, go_sem, parseRN, hz]) rfl ?_
      exact ⟨by rw [HP.out]; rfl, Hz.drop.drop⟩
    · have hl' : 65536 < (s.length : Int) := by omega
      go_enter Tryz.func19, Tryz.ntmps19
      go_wp2_with fail
      refine hrd.out.mono ?_
      rintro e w1 ⟨b, rfl, H2⟩
      go_wp2_with fail
      refine (hsm.out _ _ _ H2).mono ?_
      rintro e w2 ⟨rfl, H3⟩
      have hc2 := H3.front2.cell
      have hf2 := H3.front2.free
      have hlt2 := H3.front2.lt
      have hlt3 : w.heap.size < w2.heap.size + 1 := by omega
      have Hz := ((H3.front2.set 0 (ei 0)).set 1 (ei 0)).skip (.cells #[ei 0, ei 0] 23)
      have hz := Hz.cell
      go_wp2_with fail
      refine bodyPost_ret (v := parseRN) (by simp [results, Tryz.results19, go_sem, parseRN, hz]) rfl ?_
      exact ⟨by rw [HP.out]; rfl, Hz.drop.drop⟩
  · have hp := pp1 hk
    rw [← hx1] at hp
    rw [hk] at hsm
    have HP := Lib.hid hp
    have hba := Lib.hid (fun (w' : World) (L' : List Asn) (b : Nat) (h : Own W w' (rrA b x1 :: L')) => rBallot h hsx)
    obtain ⟨B, hB⟩ : ∃ B, B = rbV x1 := ⟨_, rfl⟩
    obtain ⟨x2, hx2⟩ : ∃ x2, x2 = rbR x1 := ⟨_, rfl⟩
    rw [← hB, ← hx2] at hba HP
    clear hk hp hr hx1 hB hx2
    by_cases hl : s.length ≤ 65536
    · have hl' : (s.length : Int) ≤ 65536 := by omega
      by_cases hg : B.good
      · have hg' := decide_eq_true hg
        by_cases he : endP x2 = 0
        · have e : parseP s = some ⟨1, B, 0, []⟩ := by rw [HP.out, if_pos ⟨hl, hg, he⟩]
          have HE := Lib.hid e
          clear hg e
          go_enter Tryz.func19, Tryz.ntmps19
          go_wp2_with fail
          refine hrd.out.mono ?_
          rintro e w1 ⟨b, rfl, H2⟩
          go_wp2_with fail
          refine (hsm.out _ _ _ H2).mono ?_
          rintro e w2 ⟨rfl, H3⟩
          have hc2 := H3.front2.cell
          have hf2 := H3.front2.free
          have hlt2 := H3.front2.lt
          have hlt3 : w.heap.size < w2.heap.size + 1 := by omega
          have H4 := (H3.alloc (.cells #[ei 0, ei 0] 23)).sel [1]
          go_wp2_with fail
          refine (hba.out _ _ _ H4).mono ?_
          rintro e w3 ⟨rfl, H5⟩
          have hc5 := H5.front2.cell
          have hf5 := H5.front2.free
          have H6 := (H5.front2.set 0 (ei B.r)).set 1 (ei B.n)
          have hc6 := H6.cell
          have hc7 := H6.front3.cell
          have hf7 := H6.front3.free
          go_wp2_with (first | (go_at_call 68; refine (rGood B _).mono ?_; rintro e w5 ⟨rfl, hb⟩; have H7 := H6.grown hb; have hc8 := H7.front3.cell; have hf8 := H7.front3.free; have hc9 := H7.cell) | (go_at_call 81; refine (rrEnd H7.front2).mono ?_; rintro e w' ⟨rfl, rfl⟩))
          simp only [List.setIfInBounds_toArray, List.set_cons_succ, List.set_cons_zero] at hc9
          go_region
          have Hz := ((H7.front3.set 0 (ei B.r)).set 1 (ei B.n))
          have hz := Hz.cell
          go_wp2_with fail
          refine bodyPost_ret (v := parseRF 1 B 0 []) (by simp [results, Tryz.results19, go_sem, parseRF, hz]) rfl ?_
          exact ⟨by rw [HE.out]; rfl, by first | exact Hz.drew.drop.drop.drop | exact Hz.drop.drop.drop⟩
        · have e : parseP s = none := by rw [HP.out, if_neg fun h => he h.2.2]
          have HE := Lib.hid e
          have he' : (endP x2 != 0) = true := by simpa using he
          clear hg e he
          go_enter Tryz.func19, Tryz.ntmps19
          go_wp2_with fail
          refine hrd.out.mono ?_
          rintro e w1 ⟨b, rfl, H2⟩
          go_wp2_with fail
          refine (hsm.out _ _ _ H2).mono ?_
          rintro e w2 ⟨rfl, H3⟩
          have hc2 := H3.front2.cell
          have hf2 := H3.front2.free
          have hlt2 := H3.front2.lt
          have hlt3 : w.heap.size < w2.heap.size + 1 := by omega
          have H4 := (H3.alloc (.cells #[ei 0, ei 0] 23)).sel [1]
          go_wp2_with fail
          refine (hba.out _ _ _ H4).mono ?_
          rintro e w3 ⟨rfl, H5⟩
          have hc5 := H5.front2.cell
          have hf5 := H5.front2.free
          have H6 := (H5.front2.set 0 (ei B.r)).set 1 (ei B.n)
          have hc6 := H6.cell
          have hc7 := H6.front3.cell
          have hf7 := H6.front3.free
          go_wp2_with (first | (go_at_call 68; refine (rGood B _).mono ?_; rintro e w5 ⟨rfl, hb⟩; have H7 := H6.grown hb; have hc8 := H7.front3.cell; have hf8 := H7.front3.free; have hc9 := H7.cell) | (go_at_call 81; refine (rrEnd H7.front2).mono ?_; rintro e w' ⟨rfl, rfl⟩))
          first | (have Hz := ((H7.front3.set 0 (ei 0)).set 1 (ei 0)); have hz := Hz.cell; refine bodyPost_ret (v := parseRN) (by simp [results, Tryz.results19, go_sem, parseRN, hz]) rfl ?_; exact ⟨by rw [HE.out]; rfl, Hz.drop.drop.drop⟩) | (have Hz := ((H6.front3.set 0 (ei 0)).set 1 (ei 0)); have hz := Hz.cell; refine bodyPost_ret (v := parseRN) (by simp [results, Tryz.results19, go_sem, parseRN, hz]) rfl ?_; exact ⟨by rw [HE.out]; rfl, Hz.drop.drop.drop⟩)
      · have hg' := decide_eq_false hg
        have e : parseP s = none := by rw [HP.out, if_neg fun h => hg h.2.1]
        have HE := Lib.hid e
        clear hg e
        go_enter Tryz.func19, Tryz.ntmps19
        go_wp2_with fail
        refine hrd.out.mono ?_
        rintro e w1 ⟨b, rfl, H2⟩
        go_wp2_with fail
        refine (hsm.out _ _ _ H2).mono ?_
        rintro e w2 ⟨rfl, H3⟩
        have hc2 := H3.front2.cell
        have hf2 := H3.front2.free
        have hlt2 := H3.front2.lt
        have hlt3 : w.heap.size < w2.heap.size + 1 := by omega
        have H4 := (H3.alloc (.cells #[ei 0, ei 0] 23)).sel [1]
        go_wp2_with fail
        refine (hba.out _ _ _ H4).mono ?_
        rintro e w3 ⟨rfl, H5⟩
        have hc5 := H5.front2.cell
        have hf5 := H5.front2.free
        have H6 := (H5.front2.set 0 (ei B.r)).set 1 (ei B.n)
        have hc6 := H6.cell
        have hc7 := H6.front3.cell
        have hf7 := H6.front3.free
        go_wp2_with (first | (go_at_call 68; refine (rGood B _).mono ?_; rintro e w5 ⟨rfl, hb⟩; have H7 := H6.grown hb; have hc8 := H7.front3.cell; have hf8 := H7.front3.free; have hc9 := H7.cell) | (go_at_call 81; refine (rrEnd H7.front2).mono ?_; rintro e w' ⟨rfl, rfl⟩))
        first | (have Hz := ((H7.front3.set 0 (ei 0)).set 1 (ei 0)); have hz := Hz.cell; refine bodyPost_ret (v := parseRN) (by simp [results, Tryz.results19, go_sem, parseRN, hz]) rfl ?_; exact ⟨by rw [HE.out]; rfl, Hz.drop.drop.drop⟩) | (have Hz := ((H6.front3.set 0 (ei 0)).set 1 (ei 0)); have hz := Hz.cell; refine bodyPost_ret (v := parseRN) (by simp [results, Tryz.results19, go_sem, parseRN, hz]) rfl ?_; exact ⟨by rw [HE.out]; rfl, Hz.drop.drop.drop⟩)
    · have hl' : 65536 < (s.length : Int) := by omega
      have e : parseP s = none := by rw [HP.out, if_neg fun h => hl h.1]
      have HE := Lib.hid e
      clear e
      go_enter Tryz.func19, Tryz.ntmps19
      go_wp2_with fail
      refine hrd.out.mono ?_
      rintro e w1 ⟨b, rfl, H2⟩
      go_wp2_with fail
      refine (hsm.out _ _ _ H2).mono ?_
      rintro e w2 ⟨rfl, H3⟩
      have hc2 := H3.front2.cell
      have hf2 := H3.front2.free
      have hlt2 := H3.front2.lt
      have hlt3 : w.heap.size < w2.heap.size + 1 := by omega
      have H4 := (H3.alloc (.cells #[ei 0, ei 0] 23)).sel [1]
      go_wp2_with fail
      refine (hba.out _ _ _ H4).mono ?_
      rintro e w3 ⟨rfl, H5⟩
      have hc5 := H5.front2.cell
      have hf5 := H5.front2.free
      have H6 := (H5.front2.set 0 (ei B.r)).set 1 (ei B.n)
      have hc6 := H6.cell
      have hc7 := H6.front3.cell
      have hf7 := H6.front3.free
      go_wp2_with (first | (go_at_call 68; refine (rGood B _).mono ?_; rintro e w5 ⟨rfl, hb⟩; have H7 := H6.grown hb; have hc8 := H7.front3.cell; have hf8 := H7.front3.free; have hc9 := H7.cell) | (go_at_call 81; refine (rrEnd H7.front2).mono ?_; rintro e w' ⟨rfl, rfl⟩))
      first | (have Hz := ((H7.front3.set 0 (ei 0)).set 1 (ei 0)); have hz := Hz.cell; refine bodyPost_ret (v := parseRN) (by simp [results, Tryz.results19, go_sem, parseRN, hz]) rfl ?_; exact ⟨by rw [HE.out]; rfl, Hz.drop.drop.drop⟩) | (have Hz := ((H6.front3.set 0 (ei 0)).set 1 (ei 0)); have hz := Hz.cell; refine bodyPost_ret (v := parseRN) (by simp [results, Tryz.results19, go_sem, parseRN, hz]) rfl ?_; exact ⟨by rw [HE.out]; rfl, Hz.drop.drop.drop⟩)
  · have hp := pp2 hk
    rw [← hx1] at hp
    rw [hk] at hsm
    have HP := Lib.hid hp
    have hba := Lib.hid (fun (w' : World) (L' : List Asn) (b : Nat) (h : Own W w' (rrA b x1 :: L')) => rBallot h hsx)
    have hs2 : Sh (rbR x1) := (hsx.smR _).smR _
    have hsl := Lib.hid (fun (w' : World) (L' : List Asn) (b : Nat) (h : Own W w' (rrA b (rbR x1) :: L')) => rSmall h hs2 4095 (by decide))
    have htx := Lib.hid (fun (w' : World) (L' : List Asn) (b : Nat) (h : Own W w' (rrA b (smR (rbR x1) 4095) :: L')) => rrText h (hs2.smR 4095))
    obtain ⟨v, hv⟩ : ∃ v, v = textV (smR (rbR x1) 4095) := ⟨_, rfl⟩
    obtain ⟨x4, hx4⟩ : ∃ x4, x4 = textR (smR (rbR x1) 4095) := ⟨_, rfl⟩
    obtain ⟨slot, hsv⟩ : ∃ slot, slot = smV (rbR x1) 4095 := ⟨_, rfl⟩
    rw [← hv, ← hx4] at htx
    rw [← hv, ← hx4, ← hsv] at HP
    rw [← hsv] at hsl
    obtain ⟨B, hB⟩ : ∃ B, B = rbV x1 := ⟨_, rfl⟩
    obtain ⟨x2, hx2⟩ : ∃ x2, x2 = rbR x1 := ⟨_, rfl⟩
    rw [← hB] at hba HP
    rw [← hx2] at hba hsl htx
    clear hk hp hr hx1 hB hx2 hv hx4 hsv
    by_cases hl : s.length ≤ 65536
    · have hl' : (s.length : Int) ≤ 65536 := by omega
      by_cases hg : B.good
      · have hg' := decide_eq_true hg
        by_cases he : endP x4 = 0
        · have e : parseP s = some ⟨2, B, slot, v⟩ := by rw [HP.out, if_pos ⟨hl, hg, he⟩]
          have HE := Lib.hid e
          clear hg e
          go_enter Tryz.func19, Tryz.ntmps19
          go_wp2_with fail
          refine hrd.out.mono ?_
          rintro e w1 ⟨b, rfl, H2⟩
          go_wp2_with fail
          refine (hsm.out _ _ _ H2).mono ?_
          rintro e w2 ⟨rfl, H3⟩
          have hc2 := H3.front2.cell
          have hf2 := H3.front2.free
          have hlt2 := H3.front2.lt
          have hlt3 : w.heap.size < w2.heap.size + 1 := by omega
          have H4 := (H3.alloc (.cells #[ei 0, ei 0] 23)).sel [1]
          go_wp2_with fail
          refine (hba.out _ _ _ H4).mono ?_
          rintro e w3 ⟨rfl, H5⟩
          have hc5 := H5.front2.cell
          have hf5 := H5.front2.free
          have H6 := (H5.front2.set 0 (ei B.r)).set 1 (ei B.n)
          have hc6 := H6.cell
          have hc7 := H6.front3.cell
          have hf7 := H6.front3.free
          go_wp2_with fail
          refine (hsl.out _ _ _ H6.front2).mono ?_
          rintro e w6 ⟨rfl, H6a⟩
          have hd1 := H6a.front2.cell
          have hd2 := H6a.front3.cell
          have hd3 := H6a.front3.free
          go_wp2_with fail
          refine (htx.out _ _ _ H6a).mono ?_
          rintro e w7 ⟨rfl, H6b⟩
          have H6 := H6b.front2
          have hd4 := H6.cell
          have hc7 := H6.front3.cell
          have hf7 := H6.front3.free
          go_wp2_with (first | (go_at_call 68; refine (rGood B _).mono ?_; rintro e w5 ⟨rfl, hb⟩; have H7 := H6.grown hb; have hc8 := H7.front3.cell; have hf8 := H7.front3.free; have hc9 := H7.cell) | (go_at_call 81; refine (rrEnd H7.front2).mono ?_; rintro e w' ⟨rfl, rfl⟩))
          simp only [List.setIfInBounds_toArray, List.set_cons_succ, List.set_cons_zero] at hc9
          go_region
          have Hz := ((H7.front3.set 0 (ei B.r)).set 1 (ei B.n))
          have hz := Hz.cell
          go_wp2_with fail
          refine bodyPost_ret (v := parseRF 2 B slot v) (by simp [results, Tryz.results19, go_sem, parseRF, hz]) rfl ?_
          exact ⟨by rw [HE.out]; rfl, by first | exact Hz.drew.drop.drop.drop | exact Hz.drop.drop.drop⟩
        · have e : parseP s = none := by rw [HP.out, if_neg fun h => he h.2.2]
          have HE := Lib.hid e
          have he' : (endP x4 != 0) = true := by simpa using he
          clear hg e he
          go_enter Tryz.func19, Tryz.ntmps19
          go_wp2_with fail
          refine hrd.out.mono ?_
          rintro e w1 ⟨b, rfl, H2⟩
          go_wp2_with fail
          refine (hsm.out _ _ _ H2).mono ?_
          rintro e w2 ⟨rfl, H3⟩
          have hc2 := H3.front2.cell
          have hf2 := H3.front2.free
          have hlt2 := H3.front2.lt
          have hlt3 : w.heap.size < w2.heap.size + 1 := by omega
          have H4 := (H3.alloc (.cells #[ei 0, ei 0] 23)).sel [1]
          go_wp2_with fail
          refine (hba.out _ _ _ H4).mono ?_
          rintro e w3 ⟨rfl, H5⟩
          have hc5 := H5.front2.cell
          have hf5 := H5.front2.free
          have H6 := (H5.front2.set 0 (ei B.r)).set 1 (ei B.n)
          have hc6 := H6.cell
          have hc7 := H6.front3.cell
          have hf7 := H6.front3.free
          go_wp2_with fail
          refine (hsl.out _ _ _ H6.front2).mono ?_
          rintro e w6 ⟨rfl, H6a⟩
          have hd1 := H6a.front2.cell
          have hd2 := H6a.front3.cell
          have hd3 := H6a.front3.free
          go_wp2_with fail
          refine (htx.out _ _ _ H6a).mono ?_
          rintro e w7 ⟨rfl, H6b⟩
          have H6 := H6b.front2
          have hd4 := H6.cell
          have hc7 := H6.front3.cell
          have hf7 := H6.front3.free
          go_wp2_with (first | (go_at_call 68; refine (rGood B _).mono ?_; rintro e w5 ⟨rfl, hb⟩; have H7 := H6.grown hb; have hc8 := H7.front3.cell; have hf8 := H7.front3.free; have hc9 := H7.cell) | (go_at_call 81; refine (rrEnd H7.front2).mono ?_; rintro e w' ⟨rfl, rfl⟩))
          first | (have Hz := ((H7.front3.set 0 (ei 0)).set 1 (ei 0)); have hz := Hz.cell; refine bodyPost_ret (v := parseRN) (by simp [results, Tryz.results19, go_sem, parseRN, hz]) rfl ?_; exact ⟨by rw [HE.out]; rfl, Hz.drop.drop.drop⟩) | (have Hz := ((H6.front3.set 0 (ei 0)).set 1 (ei 0)); have hz := Hz.cell; refine bodyPost_ret (v := parseRN) (by simp [results, Tryz.results19, go_sem, parseRN, hz]) rfl ?_; exact ⟨by rw [HE.out]; rfl, Hz.drop.drop.drop⟩)
      · have hg' := decide_eq_false hg
        have e : parseP s = none := by rw [HP.out, if_neg fun h => hg h.2.1]
        have HE := Lib.hid e
        clear hg e
        go_enter Tryz.func19, Tryz.ntmps19
        go_wp2_with fail
        refine hrd.out.mono ?_
        rintro e w1 ⟨b, rfl, H2⟩
        go_wp2_with fail
        refine (hsm.out _ _ _ H2).mono ?_
        rintro e w2 ⟨rfl, H3⟩
        have hc2 := H3.front2.cell
        have hf2 := H3.front2.free
        have hlt2 := H3.front2.lt
        have hlt3 : w.heap.size < w2.heap.size + 1 := by omega
        have H4 := (H3.alloc (.cells #[ei 0, ei 0] 23)).sel [1]
        go_wp2_with fail
        refine (hba.out _ _ _ H4).mono ?_
        rintro e w3 ⟨rfl, H5⟩
        have hc5 := H5.front2.cell
        have hf5 := H5.front2.free
        have H6 := (H5.front2.set 0 (ei B.r)).set 1 (ei B.n)
        have hc6 := H6.cell
        have hc7 := H6.front3.cell
        have hf7 := H6.front3.free
        go_wp2_with fail
        refine (hsl.out _ _ _ H6.front2).mono ?_
        rintro e w6 ⟨rfl, H6a⟩
        have hd1 := H6a.front2.cell
        have hd2 := H6a.front3.cell
        have hd3 := H6a.front3.free
        go_wp2_with fail
        refine (htx.out _ _ _ H6a).mono ?_
        rintro e w7 ⟨rfl, H6b⟩
        have H6 := H6b.front2
        have hd4 := H6.cell
        have hc7 := H6.front3.cell
        have hf7 := H6.front3.free
        go_wp2_with (first | (go_at_call 68; refine (rGood B _).mono ?_; rintro e w5 ⟨rfl, hb⟩; have H7 := H6.grown hb; have hc8 := H7.front3.cell; have hf8 := H7.front3.free; have hc9 := H7.cell) | (go_at_call 81; refine (rrEnd H7.front2).mono ?_; rintro e w' ⟨rfl, rfl⟩))
        first | (have Hz := ((H7.front3.set 0 (ei 0)).set 1 (ei 0)); have hz := Hz.cell; refine bodyPost_ret (v := parseRN) (by simp [results, Tryz.results19, go_sem, parseRN, hz]) rfl ?_; exact ⟨by rw [HE.out]; rfl, Hz.drop.drop.drop⟩) | (have Hz := ((H6.front3.set 0 (ei 0)).set 1 (ei 0)); have hz := Hz.cell; refine bodyPost_ret (v := parseRN) (by simp [results, Tryz.results19, go_sem, parseRN, hz]) rfl ?_; exact ⟨by rw [HE.out]; rfl, Hz.drop.drop.drop⟩)
    · have hl' : 65536 < (s.length : Int) := by omega
      have e : parseP s = none := by rw [HP.out, if_neg fun h => hl h.1]
      have HE := Lib.hid e
      clear e
      go_enter Tryz.func19, Tryz.ntmps19
      go_wp2_with fail
      refine hrd.out.mono ?_
      rintro e w1 ⟨b, rfl, H2⟩
      go_wp2_with fail
      refine (hsm.out _ _ _ H2).mono ?_
      rintro e w2 ⟨rfl, H3⟩
      have hc2 := H3.front2.cell
      have hf2 := H3.front2.free
      have hlt2 := H3.front2.lt
      have hlt3 : w.heap.size < w2.heap.size + 1 := by omega
      have H4 := (H3.alloc (.cells #[ei 0, ei 0] 23)).sel [1]
      go_wp2_with fail
      refine (hba.out _ _ _ H4).mono ?_
      rintro e w3 ⟨rfl, H5⟩
      have hc5 := H5.front2.cell
      have hf5 := H5.front2.free
      have H6 := (H5.front2.set 0 (ei B.r)).set 1 (ei B.n)
      have hc6 := H6.cell
      have hc7 := H6.front3.cell
      have hf7 := H6.front3.free
      go_wp2_with fail
      refine (hsl.out _ _ _ H6.front2).mono ?_
      rintro e w6 ⟨rfl, H6a⟩
      have hd1 := H6a.front2.cell
      have hd2 := H6a.front3.cell
      have hd3 := H6a.front3.free
      go_wp2_with fail
      refine (htx.out _ _ _ H6a).mono ?_
      rintro e w7 ⟨rfl, H6b⟩
      have H6 := H6b.front2
      have hd4 := H6.cell
      have hc7 := H6.front3.cell
      have hf7 := H6.front3.free
      go_wp2_with (first | (go_at_call 68; refine (rGood B _).mono ?_; rintro e w5 ⟨rfl, hb⟩; have H7 := H6.grown hb; have hc8 := H7.front3.cell; have hf8 := H7.front3.free; have hc9 := H7.cell) | (go_at_call 81; refine (rrEnd H7.front2).mono ?_; rintro e w' ⟨rfl, rfl⟩))
      first | (have Hz := ((H7.front3.set 0 (ei 0)).set 1 (ei 0)); have hz := Hz.cell; refine bodyPost_ret (v := parseRN) (by simp [results, Tryz.results19, go_sem, parseRN, hz]) rfl ?_; exact ⟨by rw [HE.out]; rfl, Hz.drop.drop.drop⟩) | (have Hz := ((H6.front3.set 0 (ei 0)).set 1 (ei 0)); have hz := Hz.cell; refine bodyPost_ret (v := parseRN) (by simp [results, Tryz.results19, go_sem, parseRN, hz]) rfl ?_; exact ⟨by rw [HE.out]; rfl, Hz.drop.drop.drop⟩)
  · have hp := pp3 hk
    rw [← hx1] at hp
    rw [hk] at hsm
    have HP := Lib.hid hp
    have hsl := Lib.hid (fun (w' : World) (L' : List Asn) (b : Nat) (h : Own W w' (rrA b x1 :: L')) => rSmall h hsx 4095 (by decide))
    have htx := Lib.hid (fun (w' : World) (L' : List Asn) (b : Nat) (h : Own W w' (rrA b (smR x1 4095) :: L')) => rrText h (hsx.smR 4095))
    obtain ⟨v, hv⟩ : ∃ v, v = textV (smR x1 4095) := ⟨_, rfl⟩
    obtain ⟨x4, hx4⟩ : ∃ x4, x4 = textR (smR x1 4095) := ⟨_, rfl⟩
    obtain ⟨slot, hsv⟩ : ∃ slot, slot = smV x1 4095 := ⟨_, rfl⟩
    rw [← hv, ← hx4] at htx
    rw [← hv, ← hx4, ← hsv] at HP
    rw [← hsv] at hsl
    clear hk hp hr hx1 hv hx4 hsv
    by_cases hl : s.length ≤ 65536
    · have hl' : (s.length : Int) ≤ 65536 := by omega
      by_cases he : endP x4 = 0
      · have e : parseP s = some ⟨3, Bal.zero, slot, v⟩ := by rw [HP.out, if_pos ⟨hl, he⟩]
        have HE := Lib.hid e
        clear e
        go_enter Tryz.func19, Tryz.ntmps19
        go_wp2_with fail
        refine hrd.out.mono ?_
        rintro e w1 ⟨b, rfl, H2⟩
        go_wp2_with fail
        refine (hsm.out _ _ _ H2).mono ?_
        rintro e w2 ⟨rfl, H3⟩
        have hc2 := H3.front2.cell
        have hf2 := H3.front2.free
        have hlt2 := H3.front2.lt
        have hlt3 : w.heap.size < w2.heap.size + 1 := by omega
        have H6 := (H3.alloc (.cells #[ei 0, ei 0] 23)).sel [0, 1]
        have hc6 := H6.cell
        have hc7 := H6.front3.cell
        have hf7 := H6.front3.free
        go_wp2_with fail
        refine (hsl.out _ _ _ H6.front2).mono ?_
        rintro e w6 ⟨rfl, H6a⟩
        have hd1 := H6a.front2.cell
        have hd2 := H6a.front3.cell
        have hd3 := H6a.front3.free
        go_wp2_with fail
        refine (htx.out _ _ _ H6a).mono ?_
        rintro e w7 ⟨rfl, H6b⟩
        have H6 := H6b.front2
        have hd4 := H6.cell
        have hc7 := H6.front3.cell
        have hf7 := H6.front3.free
        go_wp2_with ((go_at_call 81; refine (rrEnd H6.front2).mono ?_; rintro e w' ⟨rfl, rfl⟩))
        go_region
        have Hz := ((H6.front3.set 0 (ei 0)).set 1 (ei 0))
        have hz := Hz.cell
        go_wp2_with fail
        refine bodyPost_ret (v := parseRF 3 Bal.zero slot v) (by simp [results, Tryz.results19, go_sem, parseRF, hz]) rfl ?_
        exact ⟨by rw [HE.out]; rfl, by first | exact Hz.drew.drop.drop.drop | exact Hz.drop.drop.drop⟩
      · have e : parseP s = none := by rw [HP.out, if_neg fun h => he h.2]
        have HE := Lib.hid e
        have he' : (endP x4 != 0) = true := by simpa using he
        clear e he
        go_enter Tryz.func19, Tryz.ntmps19
        go_wp2_with fail
        refine hrd.out.mono ?_
        rintro e w1 ⟨b, rfl, H2⟩
        go_wp2_with fail
        refine (hsm.out _ _ _ H2).mono ?_
        rintro e w2 ⟨rfl, H3⟩
        have hc2 := H3.front2.cell
        have hf2 := H3.front2.free
        have hlt2 := H3.front2.lt
        have hlt3 : w.heap.size < w2.heap.size + 1 := by omega
        have H6 := (H3.alloc (.cells #[ei 0, ei 0] 23)).sel [0, 1]
        have hc6 := H6.cell
        have hc7 := H6.front3.cell
        have hf7 := H6.front3.free
        go_wp2_with fail
        refine (hsl.out _ _ _ H6.front2).mono ?_
        rintro e w6 ⟨rfl, H6a⟩
        have hd1 := H6a.front2.cell
        have hd2 := H6a.front3.cell
        have hd3 := H6a.front3.free
        go_wp2_with fail
        refine (htx.out _ _ _ H6a).mono ?_
        rintro e w7 ⟨rfl, H6b⟩
        have H6 := H6b.front2
        have hd4 := H6.cell
        have hc7 := H6.front3.cell
        have hf7 := H6.front3.free
        go_wp2_with ((go_at_call 81; refine (rrEnd H6.front2).mono ?_; rintro e w' ⟨rfl, rfl⟩))
        have Hz := ((H6.front3.set 0 (ei 0)).set 1 (ei 0))
        have hz := Hz.cell
        refine bodyPost_ret (v := parseRN) (by simp [results, Tryz.results19, go_sem, parseRN, hz]) rfl ?_
        exact ⟨by rw [HE.out]; rfl, Hz.drop.drop.drop⟩
    · have hl' : 65536 < (s.length : Int) := by omega
      have e : parseP s = none := by rw [HP.out, if_neg fun h => hl h.1]
      have HE := Lib.hid e
      clear e
      go_enter Tryz.func19, Tryz.ntmps19
      go_wp2_with fail
      refine hrd.out.mono ?_
      rintro e w1 ⟨b, rfl, H2⟩
      go_wp2_with fail
      refine (hsm.out _ _ _ H2).mono ?_
      rintro e w2 ⟨rfl, H3⟩
      have hc2 := H3.front2.cell
      have hf2 := H3.front2.free
      have hlt2 := H3.front2.lt
      have hlt3 : w.heap.size < w2.heap.size + 1 := by omega
      have H6 := (H3.alloc (.cells #[ei 0, ei 0] 23)).sel [0, 1]
      have hc6 := H6.cell
      have hc7 := H6.front3.cell
      have hf7 := H6.front3.free
      go_wp2_with fail
      refine (hsl.out _ _ _ H6.front2).mono ?_
      rintro e w6 ⟨rfl, H6a⟩
      have hd1 := H6a.front2.cell
      have hd2 := H6a.front3.cell
      have hd3 := H6a.front3.free
      go_wp2_with fail
      refine (htx.out _ _ _ H6a).mono ?_
      rintro e w7 ⟨rfl, H6b⟩
      have H6 := H6b.front2
      have hd4 := H6.cell
      have hc7 := H6.front3.cell
      have hf7 := H6.front3.free
      go_wp2_with ((go_at_call 81; refine (rrEnd H6.front2).mono ?_; rintro e w' ⟨rfl, rfl⟩))
      have Hz := ((H6.front3.set 0 (ei 0)).set 1 (ei 0))
      have hz := Hz.cell
      refine bodyPost_ret (v := parseRN) (by simp [results, Tryz.results19, go_sem, parseRN, hz]) rfl ?_
      exact ⟨by rw [HE.out]; rfl, Hz.drop.drop.drop⟩
  · omega
end
end Sk
