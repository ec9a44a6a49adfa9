/- Package wire: the reader. -/
import Derived.Test.YtpgbfoeejiamjaaGreatDoorK07
import Derived.Test.YtpgbfoeejiamjaaGreatDoorK03
import Derived.Test.YtpgbfoeejiamjaaGreatDoorProg
import Derived.Recover
import Derived.Defers
import Derived.Test.YtpgbfoeejiamjaaGreatDoorK04
set_option linter.all false
set_option linter.unusedVariables false
set_option linter.unusedSimpArgs false
set_option linter.unusedSectionVars false
namespace Sk
open Go Go.RowKit Go.Proofs
attribute [local go_sem ↓] slice_hide
/-- A reader: none: it has failed; else what is left. -/
def rdA (b : Nat) (x : Option (List UInt8)) : Asn :=
  match x with
  | some s => exi fun v : Value => grp [blk b (.cells #[.bool true, .bool false, v] 257), slA 1 v s.length (s.map byteV)]
  | none => blk b (.cells #[.bool true, .bool true, .slice none 0 0] 257)
section
variable {W w : World} {L : List Asn} {b : Nat} {s : List UInt8}
theorem Own.rd_open (H : Own W w (rdA b (some s) :: L)) : ∃ v, Own W w (blk b (.cells #[.bool true, .bool false, v] 257) :: slA 1 v s.length (s.map byteV) :: L) := by
  obtain ⟨v, H⟩ := Own.exi_iff.1 H
  exact ⟨v, Own.grp_iff.1 H⟩
theorem Own.rd_shut {v : Value} (H : Own W w (blk b (.cells #[.bool true, .bool false, v] 257) :: slA 1 v s.length (s.map byteV) :: L)) : Own W w (rdA b (some s) :: L) := Own.exi_iff.2 ⟨v, Own.grp_iff.2 H⟩
end
def uintV (x : Option (List UInt8)) : Nat := match x.bind rdNum with | some y => y.1 | none => 0
def uintR (x : Option (List UInt8)) : Option (List UInt8) := match x.bind rdNum with | some y => some y.2 | none => none
theorem uintV_none : uintV none = 0 := rfl
theorem uintR_none : uintR none = none := rfl
theorem uintV_bad {s : List UInt8} (h : rdNum s = none) : uintV (some s) = 0 := by simp [uintV, h]
theorem uintR_bad {s : List UInt8} (h : rdNum s = none) : uintR (some s) = none := by simp [uintR, h]
theorem uintV_good {s r : List UInt8} {n : Nat} (h : rdNum s = some (n, r)) : uintV (some s) = n := by simp [uintV, h]
theorem uintR_good {s r : List UInt8} {n : Nat} (h : rdNum s = some (n, r)) : uintR (some s) = some r := by simp [uintR, h]
theorem ret_u {a b : Int} (h : b = a) : Ending.returned (.int .u64 a) = .returned (.int .u64 b) := by rw [h]
set_option maxRecDepth 100000 in
set_option maxHeartbeats 1000000 in
theorem rdFail {W w : World} {L : List Asn} {b : Nat} {x : Option (List UInt8)} (H : Own W w (rdA b x :: L)) :
    Calls Tryz.prog 223 #[ptr b] w fun e w' => e = .returned (.tuple #[]) ∧ Own W w' (rdA b none :: L) := by
  rcases x with _ | s
  · have H0 : Own W w (blk b (.cells #[.bool true, .bool true, .slice none 0 0] 257) :: L) := H
    have hc := H0.cell
    have hf := H0.free
    go_enter Tryz.func223, Tryz.ntmps223
    go_wp2
    refine bodyPost_end (results_none rfl _ _ _) rfl ?_
    exact ⟨rfl, (H0.set 1 (.bool true)).set 2 (.slice none 0 0)⟩
  · obtain ⟨v, H0⟩ := H.rd_open
    have hc := H0.cell
    have hf := H0.free
    go_enter Tryz.func223, Tryz.ntmps223
    go_wp2
    refine bodyPost_end (results_none rfl _ _ _) rfl ?_
    exact ⟨rfl, ((H0.set 1 (.bool true)).set 2 (.slice none 0 0)).drop2⟩
set_option maxRecDepth 100000 in
set_option maxHeartbeats 1000000 in
theorem takeU {W w : World} {L : List Asn} {b : Nat} {x : Option (List UInt8)} (H : Own W w (rdA b x :: L)) :
    Calls Tryz.prog 222 #[ptr b, .func (.func 205) #[] #[]] w fun e w' => e = .returned (.int .u64 (uintV x)) ∧ Own W w' (rdA b (uintR x) :: L) := by
  rcases x with _ | s
  · have H0 : Own W w (blk b (.cells #[.bool true, .bool true, .slice none 0 0] 257) :: L) := H
    have hc := H0.cell
    go_enter Tryz.func222, Tryz.ntmps222
    go_wp2
    go_ret
    exact ⟨rfl, H⟩
  · obtain ⟨v, H0⟩ := H.rd_open
    have hrd := H0.front2.sl_rd
    have hrd0 := Lib.hid hrd
    obtain ⟨A, c, rfl, hnc, hcm, _⟩ := hrd.form
    have hc := H0.cell
    have hf := H0.free
    rcases hn : rdNum s with _ | ⟨n, r⟩
    · have hv : numV (numF 0 0 s) = .tuple #[.int .u64 0, ei 0] := by rw [rdNum_none.1 hn]; rfl
      rw [uintV_bad hn, uintR_bad hn]
      go_enter Tryz.func222, Tryz.ntmps222
      go_wp2_with (first | (go_at_call 205; refine (numberC hrd).mono ?_; rw [hv]; rintro e w1 ⟨rfl, rfl⟩) | (go_at_call 223; refine (rdFail H).mono ?_; rintro e w1 ⟨rfl, H2⟩))
      go_ret
      exact ⟨rfl, H2⟩
    · obtain ⟨h64, hs, hnum⟩ := rdNum_some hn
      have hv : numV (numF 0 0 s) = .tuple #[.int .u64 (n : Int), ei ((encU n).length : Nat)] := by rw [hnum]; rfl
      rw [uintV_good hn, uintR_good hn]
      have hk1 : 0 < (encU n).length := by unfold encU; rw [encN]; split <;> simp
      have hk2 : (encU n).length ≤ s.length := by rw [hs]; simp
      have hkr : s.drop (encU n).length = r := by rw [hs]; simp
      have hrl : s.length - (encU n).length = r.length := by rw [hs]; simp
      have H1 : Own W w (slA 1 (.slice (slP A c (encU n).length 1) r.length (c - (encU n).length)) r.length (r.map byteV) :: blk b (.cells #[.bool true, .bool false, .slice A s.length c] 257) :: L) := by
        have h := H0.front2.sl_tail hk2
        rw [Nat.mul_one, ← List.map_drop, hkr, hrl] at h
        exact h
      generalize (encU n).length = k at *
      have hsl := fun w => slice_l_eq (A := A) (c := c) (kd := .i64) byteT hk2 w
      rw [hrl] at hsl
      have hk0 : ((k : Int) == 0) = false := by simp; omega
      have HX := Lib.hid (H1.front2.set 2 (.slice (slP A c k 1) r.length (c - k)))
      clear H1 H0 hrd H hkr hs hn hnum hrl
      go_enter Tryz.func222, Tryz.ntmps222
      go_wp2_with (go_at_call 205; refine (numberC hrd0.out).mono ?_; rw [hv]; rintro e w1 ⟨rfl, rfl⟩)
      go_ret
      exact ⟨rfl, HX.out.rd_shut⟩
/-- What a reader reads as a text. -/
def rdText (s : List UInt8) : Option (List UInt8 × List UInt8) := (rdNum s).bind fun y => if y.1 ≤ 65536 ∧ y.1 ≤ y.2.length then some (y.2.take y.1, y.2.drop y.1) else none
theorem rdText_none {s : List UInt8} (h : rdNum s = none) : rdText s = none := by simp [rdText, h]
theorem rdText_bad {s r : List UInt8} {n : Nat} (h : rdNum s = some (n, r)) (hn : ¬ (n ≤ 65536 ∧ n ≤ r.length)) : rdText s = none := by
  simp only [rdText, h, Option.bind_some]; exact if_neg hn
theorem rdText_good {s r : List UInt8} {n : Nat} (h : rdNum s = some (n, r)) (hn : n ≤ 65536 ∧ n ≤ r.length) : rdText s = some (r.take n, r.drop n) := by
  simp only [rdText, h, Option.bind_some]; exact if_pos hn
theorem rdText_enc {t r : List UInt8} (h : t.length ≤ 65536) : rdText (encU t.length ++ t ++ r) = some (t, r) := by
  rw [List.append_assoc, rdText_good (rdNum_enc (by omega) _) ⟨h, by simp⟩]
  simp
def txtV (o : Option (List UInt8 × List UInt8)) (s : List UInt8) : Value := match o with | some y => .tuple #[.string ⟨y.1.toArray⟩, ei ((s.length : Int) - (y.2.length : Int))] | none => .tuple #[.string ⟨#[]⟩, ei 0]
set_option maxRecDepth 100000 in
set_option maxHeartbeats 1000000 in
theorem text1C {w : World} {v : Value} {s : List UInt8} (hr : RdW w 1 v s.length (s.map byteV)) :
    Calls Tryz.prog 204 #[v] w fun e w' => e = .returned (txtV (rdText s) s) ∧ w = w' := by
  have hr0 := Lib.hid hr
  obtain ⟨hlen, A, c, rfl, hnc, hcm, hA⟩ := hr
  unfold maxLen at hcm
  rcases hn : rdNum s with _ | ⟨n, r⟩
  · have hv : numV (numF 0 0 s) = .tuple #[.int .u64 0, ei 0] := by rw [rdNum_none.1 hn]; rfl
    rw [rdText_none hn]
    clear hn
    go_enter Tryz.func204, Tryz.ntmps204
    go_wp2_with (go_at_call 205; refine (numberC hr0.out).mono ?_; rw [hv]; rintro e w1 ⟨rfl, rfl⟩)
    refine bodyPost_ret (v := .tuple #[.string ⟨#[]⟩, ei 0]) (by simp [results, Tryz.results204, go_sem]) rfl ?_
    exact ⟨rfl, rfl⟩
  · obtain ⟨h64, hs, hnum⟩ := rdNum_some hn
    have hv : numV (numF 0 0 s) = .tuple #[.int .u64 (n : Int), ei ((encU n).length : Nat)] := by rw [hnum]; rfl
    have hk1 : 0 < (encU n).length := by unfold encU; rw [encN]; split <;> simp
    have hk2 : (encU n).length ≤ s.length := by rw [hs]; simp
    have hkr : s.drop (encU n).length = r := by rw [hs]; simp
    have hrl : s.length - (encU n).length = r.length := by rw [hs]; simp
    by_cases hb : n ≤ 65536 ∧ n ≤ r.length
    · rw [rdText_good hn hb]
      generalize (encU n).length = k at *
      have hkd : ((k : Int) == 0) = false := by simp; omega
      have hw : IntKind.u64.wrap ((s.length : Int) - (k : Int)) = ((r.length : Nat) : Int) := by rw [IntKind.wrap_u64]; omega
      have hsl : ∀ w, (sliceSem 24 (.slice A s.length c) (some (.int .i64 (k : Int))) (some (.int .i64 ((k : Int) + (n : Int)))) none).run Tryz.prog w = .ok (.slice (slP A c k 1) n (c - k)) w := by
        intro w
        have h := slice_lh_eq (A := A) (n := s.length) (c := c) (l := k) (h := k + n) (kd := .i64) (kd' := .i64) byteT (by omega) (by omega) w
        rw [Nat.add_sub_cancel_left, Int.natCast_add] at h
        exact h
      have hcv : (convert 24 9 (.slice (slP A c k 1) n (c - k))).run Tryz.prog w = .ok (.string ⟨(r.take n).toArray⟩) w := by
        have h := hr0.out.window (l := k) (h := k + n) (by omega) (by omega)
        rw [Nat.mul_one, Nat.mul_one, Nat.add_sub_cancel_left, ← List.map_drop, hkr, ← List.map_take] at h
        have hl : (r.take n).length = n := by rw [List.length_take]; omega
        have h2 : RdW w 1 (.slice (slP A c k 1) n (c - k)) (r.take n).length ((r.take n).map fun c => Value.int .u8 (c.toNat : Int)) := by rw [hl]; exact h
        have h3 := h2.conv (P := Tryz.prog) (src := 24) (dst := 9) Tryz.underlying24 Tryz.underlying5 Tryz.underlying9
        exact h3
      have hend : (s.length : Int) - ((r.drop n).length : Int) = (k : Int) + (n : Int) := by rw [List.length_drop]; omega
      have hv2 : txtV (some (r.take n, r.drop n)) s = .tuple #[.string ⟨(r.take n).toArray⟩, ei ((k : Int) + (n : Int))] := by simp only [txtV]; rw [hend]
      have hle : (k : Int) + (n : Int) ≤ 9223372036854775807 := by omega
      have q1 : ¬ 65536 < (n : Int) := by omega
      have q2 : ¬ (r.length : Int) < (n : Int) := by omega
      have q3 : (n : Int) ≤ 65536 := by omega
      rw [hv2]
      clear hs hn hnum hrl hkr hend hv2
      generalize r.take n = tx at *
      go_enter Tryz.func204, Tryz.ntmps204
      go_wp2_with (go_at_call 205; refine (numberC hr0.out).mono ?_; rw [hv]; rintro e w1 ⟨rfl, rfl⟩)
      refine bodyPost_ret (v := .tuple #[.string ⟨tx.toArray⟩, ei ((k : Int) + (n : Int))]) (by simp [results, Tryz.results204, go_sem]) rfl ?_
      exact ⟨rfl, rfl⟩
    · rw [rdText_bad hn hb]
      generalize (encU n).length = k at *
      have hkd : ((k : Int) == 0) = false := by simp; omega
      have hw : IntKind.u64.wrap ((s.length : Int) - (k : Int)) = ((r.length : Nat) : Int) := by rw [IntKind.wrap_u64]; omega
      clear hs hn hnum hrl
      by_cases h1 : n ≤ 65536
      · have q1 : ¬ 65536 < (n : Int) := by omega
        have q2 : (r.length : Int) < (n : Int) := by omega
        go_enter Tryz.func204, Tryz.ntmps204
        go_wp2_with (go_at_call 205; refine (numberC hr0.out).mono ?_; rw [hv]; rintro e w1 ⟨rfl, rfl⟩)
        refine bodyPost_ret (v := .tuple #[.string ⟨#[]⟩, ei 0]) (by simp [results, Tryz.results204, go_sem]) rfl ?_
        exact ⟨rfl, rfl⟩
      · have q1 : 65536 < (n : Int) := by omega
        go_enter Tryz.func204, Tryz.ntmps204
        go_wp2_with (go_at_call 205; refine (numberC hr0.out).mono ?_; rw [hv]; rintro e w1 ⟨rfl, rfl⟩)
        refine bodyPost_ret (v := .tuple #[.string ⟨#[]⟩, ei 0]) (by simp [results, Tryz.results204, go_sem]) rfl ?_
        exact ⟨rfl, rfl⟩
def textV (x : Option (List UInt8)) : List UInt8 := match x.bind rdText with | some y => y.1 | none => []
def textR (x : Option (List UInt8)) : Option (List UInt8) := match x.bind rdText with | some y => some y.2 | none => none
theorem textV_bad {s : List UInt8} (h : rdText s = none) : textV (some s) = [] := by simp [textV, h]
theorem textR_bad {s : List UInt8} (h : rdText s = none) : textR (some s) = none := by simp [textR, h]
theorem textV_good {s t r : List UInt8} (h : rdText s = some (t, r)) : textV (some s) = t := by simp [textV, h]
theorem textR_good {s t r : List UInt8} (h : rdText s = some (t, r)) : textR (some s) = some r := by simp [textR, h]
theorem rdText_some {s t r : List UInt8} (h : rdText s = some (t, r)) : t.length ≤ 65536 ∧ s = encU t.length ++ t ++ r := by
  rcases hn : rdNum s with _ | ⟨n, q⟩
  · rw [rdText_none hn] at h; cases h
  · by_cases hb : n ≤ 65536 ∧ n ≤ q.length
    · rw [rdText_good hn hb] at h
      obtain ⟨_, hs, _⟩ := rdNum_some hn
      cases h
      have hl : (q.take n).length = n := by rw [List.length_take]; omega
      refine ⟨by omega, ?_⟩
      rw [hl, List.append_assoc, List.take_append_drop]
      exact hs
    · rw [rdText_bad hn hb] at h; cases h
theorem encU_pos (n : Nat) : 0 < (encU n).length := by unfold encU; rw [encN]; split <;> simp
set_option maxRecDepth 100000 in
set_option maxHeartbeats 1000000 in
theorem takeT {W w : World} {L : List Asn} {b : Nat} {x : Option (List UInt8)} (H : Own W w (rdA b x :: L)) :
    Calls Tryz.prog 203 #[ptr b, .func (.func 204) #[] #[]] w fun e w' => e = .returned (.string ⟨(textV x).toArray⟩) ∧ Own W w' (rdA b (textR x) :: L) := by
  rcases x with _ | s
  · have H0 : Own W w (blk b (.cells #[.bool true, .bool true, .slice none 0 0] 257) :: L) := H
    have hc := H0.cell
    go_enter Tryz.func203, Tryz.ntmps203
    go_wp2
    go_ret
    exact ⟨rfl, H⟩
  · obtain ⟨v, H0⟩ := H.rd_open
    have hrd := H0.front2.sl_rd
    have hrd0 := Lib.hid hrd
    obtain ⟨A, c, rfl, hnc, hcm, _⟩ := hrd.form
    have hc := H0.cell
    have hf := H0.free
    rcases hn : rdText s with _ | ⟨t, r⟩
    · have hv : txtV (rdText s) s = .tuple #[.string ⟨#[]⟩, ei 0] := by rw [hn]; rfl
      rw [textV_bad hn, textR_bad hn]
      go_enter Tryz.func203, Tryz.ntmps203
      go_wp2_with (first | (go_at_call 204; refine (text1C hrd).mono ?_; rw [hv]; rintro e w1 ⟨rfl, rfl⟩) | (go_at_call 223; refine (rdFail H).mono ?_; rintro e w1 ⟨rfl, H2⟩))
      go_ret
      exact ⟨rfl, H2⟩
    · obtain ⟨h64, hs⟩ := rdText_some hn
      obtain ⟨k, hk⟩ : ∃ k, k = (encU t.length ++ t).length := ⟨_, rfl⟩
      have hk0 : 0 < k := by have := encU_pos t.length; rw [hk, List.length_append]; omega
      have hk2 : k ≤ s.length := by rw [hs, hk]; simp
      have hkr : s.drop k = r := by rw [hs, hk]; exact List.drop_left
      have hrl : s.length - k = r.length := by rw [hs, hk]; simp only [List.length_append]; omega
      have hv : txtV (rdText s) s = .tuple #[.string ⟨t.toArray⟩, ei (k : Nat)] := by
        have e : (s.length : Int) - (r.length : Int) = ((k : Nat) : Int) := by omega
        rw [hn]; simp only [txtV]; rw [e]
      rw [textV_good hn, textR_good hn]
      have H1 : Own W w (slA 1 (.slice (slP A c k 1) r.length (c - k)) r.length (r.map byteV) :: blk b (.cells #[.bool true, .bool false, .slice A s.length c] 257) :: L) := by
        have h := H0.front2.sl_tail hk2
        rw [Nat.mul_one, ← List.map_drop, hkr, hrl] at h
        exact h
      have hsl := fun w => slice_l_eq (A := A) (c := c) (kd := .i64) byteT hk2 w
      rw [hrl] at hsl
      have hkd : ((k : Int) == 0) = false := by simp; omega
      have HX := Lib.hid (H1.front2.set 2 (.slice (slP A c k 1) r.length (c - k)))
      clear H1 H0 hrd H hkr hs hn hrl hk
      go_enter Tryz.func203, Tryz.ntmps203
      go_wp2_with (go_at_call 204; refine (text1C hrd0.out).mono ?_; rw [hv]; rintro e w1 ⟨rfl, rfl⟩)
      go_ret
      exact ⟨rfl, HX.out.rd_shut⟩
set_option maxHeartbeats 1000000 in
theorem rdUint {W w : World} {L : List Asn} {b : Nat} {x : Option (List UInt8)} (H : Own W w (rdA b x :: L)) :
    Calls Tryz.prog 202 #[ptr b] w fun e w' => e = .returned (.int .u64 (uintV x)) ∧ Own W w' (rdA b (uintR x) :: L) := by
  go_enter Tryz.func202, Tryz.ntmps202
  go_wp2_with (go_at_call 222; refine (takeU H).mono ?_; rintro e w1 ⟨rfl, H2⟩)
  go_ret
  exact ⟨rfl, H2⟩
set_option maxHeartbeats 1000000 in
theorem rdTextC {W w : World} {L : List Asn} {b : Nat} {x : Option (List UInt8)} (H : Own W w (rdA b x :: L)) :
    Calls Tryz.prog 161 #[ptr b] w fun e w' => e = .returned (.string ⟨(textV x).toArray⟩) ∧ Own W w' (rdA b (textR x) :: L) := by
  go_enter Tryz.func161, Tryz.ntmps161
  go_wp2_with (go_at_call 203; refine (takeT H).mono ?_; rintro e w1 ⟨rfl, H2⟩)
  go_ret
  exact ⟨rfl, H2⟩
def endP (x : Option (List UInt8)) : Int := match x with | some [] => 0 | _ => 10
set_option maxHeartbeats 1000000 in
theorem rdEnd {W w : World} {L : List Asn} {b : Nat} {x : Option (List UInt8)} (H : Own W w (rdA b x :: L)) :
    Calls Tryz.prog 168 #[ptr b] w fun e w' => e = .returned (ei (endP x)) ∧ w = w' := by
  rcases x with _ | s
  · have H0 : Own W w (blk b (.cells #[.bool true, .bool true, .slice none 0 0] 257) :: L) := H
    have hc := H0.cell
    go_enter Tryz.func168, Tryz.ntmps168
    go_wp2
    go_ret
    exact ⟨rfl, rfl⟩
  · obtain ⟨v, H0⟩ := H.rd_open
    have hrd := H0.front2.sl_rd
    obtain ⟨A, c, rfl, hnc, hcm, _⟩ := hrd.form
    have hc := H0.cell
    rcases s with _ | ⟨x, s⟩
    · go_enter Tryz.func168, Tryz.ntmps168
      go_wp2
      go_ret
      exact ⟨rfl, rfl⟩
    · have hp : 0 < ((x :: s).length : Int) := by simp
      have he : endP (some (x :: s)) = 10 := rfl
      generalize x :: s = l at *
      rw [he]
      go_enter Tryz.func168, Tryz.ntmps168
      go_wp2
      go_ret
      exact ⟨rfl, rfl⟩
set_option maxHeartbeats 1000000 in
theorem rdRead {W w : World} {L : List Asn} (H : Own W w L) {x : Value} {n : Nat} {s : List UInt8} (hr : RdW w 1 x n (s.map byteV)) (hn : n ≤ 140737488355328) :
    Calls Tryz.prog 167 #[x] w fun e w' => ∃ b, e = .returned (ptr b) ∧ Own W w' (rdA b (some s) :: L) := by
  have hl : s.length = n := by simpa using hr.len
  subst hl
  go_enter Tryz.func167, Tryz.ntmps167
  go_wp2_with (go_at_call 17; refine (cloneB H hr hn).mono ?_; rintro e w' ⟨A', c', rfl, H2⟩)
  go_ret
  refine ⟨_, rfl, ?_⟩
  exact ((H2.row_freeze.alloc _)).rd_shut
end Sk
/- Package stable: what a record is read as. -/
namespace Sk
open Go Go.RowKit Go.Proofs
attribute [local go_sem ↓] run_eql_bal run_neq_bal
/-- What a reader panics with. -/
def malE : PanicEntry := { v := .iface 208 (.agg #[]), recovered := false }
set_option maxHeartbeats 1000000 in
theorem needC (t : Bool) (w : World) : Calls Tryz.prog 159 #[.bool t] w fun e w' => (t = true ∧ e = .returned (.tuple #[]) ∧ w = w') ∨ (t = false ∧ e = .panicked [malE] ∧ w = w') := by
  cases t
  · go_enter Tryz.func159, Tryz.ntmps159
    go_wp2
    exact ⟨rfl, by simp [malE]⟩
  · go_enter Tryz.func159, Tryz.ntmps159
    go_wp2
    refine bodyPost_end (results_none rfl _ _ _) rfl ?_
    simp
theorem need_yes {t : Bool} (ht : t = true) (w : World) : Calls Tryz.prog 159 #[.bool t] w fun e w' => e = .returned (.tuple #[]) ∧ w = w' :=
  (needC t w).mono fun _ _ h => by rcases h with ⟨_, h⟩ | ⟨h, _⟩; exact h; rw [ht] at h; cases h
theorem need_no {t : Bool} (ht : t = false) (w : World) : Calls Tryz.prog 159 #[.bool t] w fun e w' => e = .panicked [malE] ∧ w = w' :=
  (needC t w).mono fun _ _ h => by rcases h with ⟨h, _⟩ | ⟨_, h⟩; rw [ht] at h; cases h; exact h
set_option maxHeartbeats 1000000 in
theorem catch_idle (g : Nat) (w : World) : CallsD Tryz.prog 166 #[ptr g] .returning w fun e u' w' => e = .returned (.tuple #[]) ∧ u' = .returning ∧ w' = w := by
  refine callsD_of_wpS Tryz.func166 rfl fun c₀ cs hu => ?_
  apply wpS_seq
  apply wpS_region
  simp [wpOpsS, go_sem, recoverD, hu, Tryz.ntmps166, Exit.thenS]
  apply wpS_seq
  apply wpS_region
  simp [wpOpsS, go_sem, Exit.thenS]
  refine wpS_cond (t := false) (by simp [Act.eval, Array.replicate]) ?_
  simp only [Bool.false_eq_true, if_false]
  refine wpS_of_wp (wp_skip ?_)
  cases c₀
  simp_all [bodyPostS, results, Tryz.results166, Exit.thenS]
theorem assert_mal (w : World) : (Instr.typeAssert (.iface 208 (.agg #[])) 20 208 true).run Tryz.prog w = .ok (.tuple #[.agg #[], .bool true]) w := by kernel_rfl
set_option maxRecDepth 100000 in
theorem catch_mal (g : Nat) (w : World) (old : Value) (hc : w.cell? ⟨g, 0, none⟩ = some old) (hf : w.frozen? ⟨g, 0, none⟩ = false) :
    CallsD Tryz.prog 166 #[ptr g] (.panicking [malE]) w fun e u' w' => e = .returned (.tuple #[]) ∧ u' = .panicking [{ malE with recovered := true }] ∧ w' = (w.alloc (.cells #[] 208)).setCell ⟨g, 0, none⟩ (.bool false) := by
  have hlt := World.block_lt_of_cell? _ _ hc
  have hc2 : (w.alloc (.cells #[] 208)).cell? ⟨g, 0, none⟩ = some old := by rw [((Bel.refl w).alloc _).cell hlt]; exact hc
  have hf2 : (w.alloc (.cells #[] 208)).frozen? ⟨g, 0, none⟩ = false := by rw [((Bel.refl w).alloc _).frule _ _ hlt]; exact hf
  refine callsD_of_wpS Tryz.func166 rfl fun c₀ cs hu => ?_
  apply wpS_seq
  apply wpS_region
  simp [wpOpsS, go_sem, recoverD, hu, Tryz.ntmps166, Exit.thenS, malE]
  apply wpS_seq
  apply wpS_region
  simp [wpOpsS, go_sem, Exit.thenS]
  refine wpS_cond (t := true) (by simp [Act.eval, Array.replicate]) ?_
  simp only [if_true]
  apply wpS_seq
  apply wpS_seq
  apply wpS_region
  simp [wpOpsS, go_sem, Exit.thenS, assert_mal]
  apply wpS_seq
  apply wpS_region
  simp [wpOpsS, go_sem, Exit.thenS]
  refine wpS_cond (t := false) (by simp [Act.eval, Array.replicate]) ?_
  simp only [Bool.false_eq_true, if_false]
  refine wpS_of_wp (wp_skip ?_)
  simp only [Exit.thenS]
  apply wpS_region
  simp [wpOpsS, go_sem, hc2, hf2, bodyPostS, results, Tryz.results166]

/-- How a reading closure ends: it returns, the reader x, or it panics. -/
def ReadPost (W : World) (b : Nat) (M : List Asn) (Ok : Option (List UInt8) → List Asn) (Bad : List Asn) (e : Ending) (w : World) : Prop :=
  (e = .returned (.tuple #[]) ∧ ∃ x, Own W w (rdA b x :: (Ok x ++ M))) ∨ (e = .panicked [malE] ∧ Own W w (Bad ++ M))
def ReadingPost (W : World) (Ok : Option (List UInt8) → List Asn) (Bad : List Asn) (e : Ending) (w : World) : Prop :=
  (e = .returned (.bool true) ∧ Own W w (Ok (some []))) ∨ (e = .returned (.bool false) ∧ Own W w Bad) ∨ (∃ x, x ≠ some [] ∧ e = .returned (.bool false) ∧ Own W w (Ok x))
theorem endP_ok {x : Option (List UInt8)} : x = some [] → endP x = 0 := by rintro rfl; rfl
theorem endP_no {x : Option (List UInt8)} (h : x ≠ some []) : endP x = 10 := by
  rcases x with _ | _ | _
  · rfl
  · exact absurd rfl h
  · rfl
set_option maxRecDepth 100000 in
set_option maxHeartbeats 1000000 in
theorem readingC {W w : World} {L : List Asn} {v : Value} {n : Nat} {s : List UInt8} {F : Nat} {caps : Array Value} {Ok : Option (List UInt8) → List Asn} {Bad : List Asn} (H : Own W w L) (hr : RdW w 1 v n (s.map byteV)) (hn : n ≤ 140737488355328)
    (hF : ∀ args w, (callFunc F args).run Tryz.prog w = .ok (.enter F args) w)
    (hf : ∀ b w1 M, Own W w1 (rdA b (some s) :: (L ++ M)) → Calls Tryz.prog F (#[.agg #[ptr b]] ++ caps) w1 (ReadPost W b M Ok Bad)) :
    Calls Tryz.prog 90 #[v, .func (.func F) #[] caps] w (ReadingPost W Ok Bad) := by
  have hmf : ∀ (fn : Fn) (first cap : Array Value) (w : World), (Instr.makeFunc fn first cap).run Tryz.prog w = .ok (.func fn first cap) w := fun _ _ _ _ => rfl
  have H1 := H.alloc (.cells #[.bool false] 4)
  go_enter_defers Tryz.func90, Tryz.ntmps90
  go_wp2_with (go_at_call 167; refine (rdRead H1 (hr.alloc _) hn).mono ?_; rintro e w1 ⟨b, rfl, H2⟩)
  have H3 := H2.alloc (.cells #[ptr b] 137)
  have H4 : Own W _ (rdA b (some s) :: (L ++ [blk w1.heap.size (.cells #[ptr b] 137), blk w.heap.size (.cells #[.bool false] 4)])) :=
    H3.front2.perm (.cons _ (List.perm_append_comm (l₁ := [_, _])))
  refine (hf _ _ _ H4).mono ?_
  rintro e w2 (⟨rfl, x, H5⟩ | ⟨rfl, H5⟩)
  · have H6 := Own.front (rdA b x :: Ok x) H5
    have hc6 := H6.cell
    have H7 := Own.front (blk w1.heap.size (.cells #[ptr b] 137) :: rdA b x :: Ok x) H6
    have hc7 := H7.cell
    have hf7 := H7.free
    by_cases hx : x = some []
    · have he := endP_ok hx
      have hX := Lib.hid hx
      clear hx
      have H8 := H7.set 0 (.bool true)
      have hc8 := H8.cell 0
      go_wp2_with (go_at_call 168; refine (rdEnd H5).mono ?_; rintro e w3 ⟨rfl, rfl⟩)
      refine leaves_cons (f := 166) (args := #[ptr w.heap.size]) (by simp) (by simp [go_sem]) ?_
      refine (catch_idle _ _).mono ?_
      rintro e u' w'' ⟨rfl, rfl, rfl⟩
      simp [Leaves, settle, results, Tryz.results90, go_sem, hc8]
      rw [hX.out] at H8
      exact .inl ⟨rfl, by simpa using H8.drop.drop.drop⟩
    · have he := endP_no hx
      have H8 := H7.set 0 (.bool false)
      have hc8 := H8.cell 0
      go_wp2_with (go_at_call 168; refine (rdEnd H5).mono ?_; rintro e w3 ⟨rfl, rfl⟩)
      refine leaves_cons (f := 166) (args := #[ptr w.heap.size]) (by simp) (by simp [go_sem]) ?_
      refine (catch_idle _ _).mono ?_
      rintro e u' w'' ⟨rfl, rfl, rfl⟩
      simp [Leaves, settle, results, Tryz.results90, go_sem, hc8]
      exact .inr (.inr ⟨x, hx, rfl, by simpa using H8.drop.drop.drop⟩)
  · have H6 := Own.front Bad H5
    have H7 := Own.front (blk w1.heap.size (.cells #[ptr b] 137) :: Bad) H6
    have H8 := (H7.skip (.cells #[] 208)).set 0 (.bool false)
    have hc8 := H8.cell 0
    simp only []
    refine leaves_cons (f := 166) (args := #[ptr w.heap.size]) (by simp) (by simp [go_sem]) ?_
    refine (catch_mal _ _ (.bool false) (H7.cell 0) (H7.free 0)).mono ?_
    rintro e u' w'' ⟨rfl, rfl, rfl⟩
    simp [Leaves, settle, results, Tryz.results90, go_sem, hc8]
    exact .inr (.inl ⟨rfl, by simpa using H8.drop.drop⟩)
end Sk
/- Package stable: parse. -/
namespace Sk
open Go Go.RowKit Go.Proofs
attribute [local go_sem ↓] run_eql_bal run_neq_bal
theorem uintV_lt (x : Option (List UInt8)) : uintV x < 18446744073709551616 := by
  rcases x with _ | s
  · decide
  · rcases h : rdNum s with _ | ⟨n, r⟩
    · rw [uintV_bad h]; omega
    · rw [uintV_good h]; exact (rdNum_some h).1
theorem wrap_nat {n : Nat} (h : n < 9223372036854775808) : IntKind.i64.wrap (n : Int) = n := by
  simp only [IntKind.wrap, IntKind.bits, IntKind.signed]
  simp
  omega
theorem wrapu_nat {n : Nat} (h : n < 18446744073709551616) : IntKind.u64.wrap (n : Int) = n := by rw [IntKind.wrap_u64]; omega
set_option maxHeartbeats 1000000 in
theorem num_ok {W w : World} {L : List Asn} {b : Nat} {x : Option (List UInt8)} (H : Own W w (rdA b x :: L)) (most : Nat) (hm : most < 9223372036854775808) (h : uintV x ≤ most) :
    Calls Tryz.prog 158 #[.agg #[ptr b], ei most] w fun e w' => e = .returned (ei (uintV x)) ∧ Own W w' (rdA b (uintR x) :: L) := by
  have H1 := H.alloc (.cells #[ptr b] 137)
  have hw := wrapu_nat (n := most) (by omega)
  have hw2 := wrap_nat (n := uintV x) (by omega)
  have hd : decide ((uintV x : Int) ≤ (most : Int)) = true := decide_eq_true (by omega)
  have hle : (uintV x : Int) ≤ (most : Int) := by omega
  go_enter Tryz.func158, Tryz.ntmps158
  go_wp2_with (first | (go_at_call 202; refine (rdUint H1.front2).mono ?_; rintro e w1 ⟨rfl, H2⟩) | (go_at_call 159; refine (need_yes (by simp) _).mono ?_; rintro e w2 ⟨rfl, rfl⟩))
  go_ret
  exact ⟨rfl, H2.drop2⟩
set_option maxHeartbeats 1000000 in
theorem num_bad {W w : World} {L : List Asn} {b : Nat} {x : Option (List UInt8)} (H : Own W w (rdA b x :: L)) (most : Nat) (hm : most < 9223372036854775808) (h : most < uintV x) :
    Calls Tryz.prog 158 #[.agg #[ptr b], ei most] w fun e w' => e = .panicked [malE] ∧ Own W w' L := by
  have H1 := H.alloc (.cells #[ptr b] 137)
  have hw := wrapu_nat (n := most) (by omega)
  have hd : decide ((uintV x : Int) ≤ (most : Int)) = false := decide_eq_false (by omega)
  have hle : ¬ (uintV x : Int) ≤ (most : Int) := by omega
  go_enter Tryz.func158, Tryz.ntmps158
  go_wp2_with (first | (go_at_call 202; refine (rdUint H1.front2).mono ?_; rintro e w1 ⟨rfl, H2⟩) | (go_at_call 159; refine (need_no (by simpa using hd) _).mono ?_; rintro e w2 ⟨rfl, rfl⟩))
  exact ⟨rfl, rfl, H2.drop.drop⟩
/-- A ballot that is read. -/
def balV (x : Option (List UInt8)) : Bal := ⟨uintV x, uintV (uintR x)⟩
def balOk (x : Option (List UInt8)) : Prop := uintV x ≤ 1073741824 ∧ uintV (uintR x) ≤ 6
instance (x : Option (List UInt8)) : Decidable (balOk x) := by unfold balOk; infer_instance
set_option maxHeartbeats 1000000 in
theorem bal_ok {W w : World} {L : List Asn} {b : Nat} {x : Option (List UInt8)} (H : Own W w (rdA b x :: L)) (h : balOk x) :
    Calls Tryz.prog 160 #[.agg #[ptr b]] w fun e w' => e = .returned (balV x).v ∧ Own W w' (rdA b (uintR (uintR x)) :: L) := by
  have H1 := ((H.alloc (.cells #[ptr b] 137)).alloc (.cells #[.int .i64 0, .int .i64 0] 23))
  rw [World.size_alloc] at H1
  go_enter Tryz.func160, Tryz.ntmps160
  go_wp2_with fail
  refine (num_ok H1.front3 1073741824 (by decide) h.1).mono ?_
  rintro e w1 ⟨rfl, H2⟩
  have hc2 := H2.front3.cell
  go_wp2_with fail
  refine (num_ok H2 6 (by decide) h.2).mono ?_
  rintro e w2 ⟨rfl, H3⟩
  have hc3 := H3.front2.cell
  have hf3 := H3.front2.free
  have H4 := (H3.front2.set 0 (ei (uintV x))).set 1 (ei (uintV (uintR x)))
  have hc4 := H4.cell
  go_wp2_with fail
  refine bodyPost_ret (v := (balV x).v) (by simp [results, Tryz.results160, go_sem, hc4, balV]) rfl ?_
  exact ⟨rfl, H4.drop.drop2⟩
set_option maxHeartbeats 1000000 in
theorem bal_bad {W w : World} {L : List Asn} {b : Nat} {x : Option (List UInt8)} (H : Own W w (rdA b x :: L)) (h : ¬ balOk x) :
    Calls Tryz.prog 160 #[.agg #[ptr b]] w fun e w' => e = .panicked [malE] ∧ Own W w' L := by
  have H1 := ((H.alloc (.cells #[ptr b] 137)).alloc (.cells #[.int .i64 0, .int .i64 0] 23))
  rw [World.size_alloc] at H1
  unfold balOk at h
  by_cases h1 : uintV x ≤ 1073741824
  · go_enter Tryz.func160, Tryz.ntmps160
    go_wp2_with fail
    refine (num_ok H1.front3 1073741824 (by decide) h1).mono ?_
    rintro e w1 ⟨rfl, H2⟩
    have hc2 := H2.front3.cell
    go_wp2_with fail
    refine (num_bad H2 6 (by decide) (by omega)).mono ?_
    rintro e w2 ⟨rfl, H3⟩
    exact ⟨rfl, rfl, H3.drop.drop⟩
  · go_enter Tryz.func160, Tryz.ntmps160
    go_wp2_with fail
    refine (num_bad H1.front3 1073741824 (by decide) (by omega)).mono ?_
    rintro e w1 ⟨rfl, H2⟩
    exact ⟨rfl, rfl, H2.drop.drop⟩
/-- What a record says. -/
structure Rec where
  kind : Nat
  b : Bal
  slot : Nat
  value : List UInt8
def Rec.cells (r : Rec) : Array Value := #[ei r.kind, ei r.b.r, ei r.b.n, ei r.slot, .string ⟨r.value.toArray⟩]
def recObj (cs : Array Value) : Obj := .cells cs 113
/-- What the closure of parse does: none: it panics. -/
def flow (x : Option (List UInt8)) : Option (Rec × Option (List UInt8)) :=
  if uintV x = 1 then (if balOk (uintR x) ∧ (balV (uintR x)).good then some (⟨1, balV (uintR x), 0, []⟩, uintR (uintR (uintR x))) else none)
  else if uintV x = 2 then (if balOk (uintR x) ∧ (balV (uintR x)).good ∧ uintV (uintR (uintR (uintR x))) ≤ 4095 then some (⟨2, balV (uintR x), uintV (uintR (uintR (uintR x))), textV (uintR (uintR (uintR (uintR x))))⟩, textR (uintR (uintR (uintR (uintR x))))) else none)
  else if uintV x = 3 then (if uintV (uintR x) ≤ 4095 then some (⟨3, Bal.zero, uintV (uintR x), textV (uintR (uintR x))⟩, textR (uintR (uintR x))) else none)
  else none
def FlowPost (W : World) (b bx : Nat) (L : List Asn) (o : Option (Rec × Option (List UInt8))) (e : Ending) (w : World) : Prop :=
  match o with
  | some y => e = .returned (.tuple #[]) ∧ Own W w (rdA b y.2 :: blk bx (recObj y.1.cells) :: L)
  | none => e = .panicked [malE] ∧ Own W w L
theorem flow_1 {x : Option (List UInt8)} (hk : uintV x = 1) (h : balOk (uintR x) ∧ (balV (uintR x)).good) : flow x = some (⟨1, balV (uintR x), 0, []⟩, uintR (uintR (uintR x))) := by
  unfold flow; rw [if_pos hk, if_pos h]
theorem flow_1n {x : Option (List UInt8)} (hk : uintV x = 1) (h : ¬ (balOk (uintR x) ∧ (balV (uintR x)).good)) : flow x = none := by
  unfold flow; rw [if_pos hk, if_neg h]
theorem flow_2 {x : Option (List UInt8)} (hk : uintV x = 2) (h : balOk (uintR x) ∧ (balV (uintR x)).good ∧ uintV (uintR (uintR (uintR x))) ≤ 4095) : flow x = some (⟨2, balV (uintR x), uintV (uintR (uintR (uintR x))), textV (uintR (uintR (uintR (uintR x))))⟩, textR (uintR (uintR (uintR (uintR x))))) := by
  unfold flow; rw [if_neg (by omega), if_pos hk, if_pos h]
theorem flow_2n {x : Option (List UInt8)} (hk : uintV x = 2) (h : ¬ (balOk (uintR x) ∧ (balV (uintR x)).good ∧ uintV (uintR (uintR (uintR x))) ≤ 4095)) : flow x = none := by
  unfold flow; rw [if_neg (by omega), if_pos hk, if_neg h]
theorem flow_3 {x : Option (List UInt8)} (hk : uintV x = 3) (h : uintV (uintR x) ≤ 4095) : flow x = some (⟨3, Bal.zero, uintV (uintR x), textV (uintR (uintR x))⟩, textR (uintR (uintR x))) := by
  unfold flow; rw [if_neg (by omega), if_neg (by omega), if_pos hk, if_pos h]
theorem flow_3n {x : Option (List UInt8)} (hk : uintV x = 3) (h : ¬ uintV (uintR x) ≤ 4095) : flow x = none := by
  unfold flow; rw [if_neg (by omega), if_neg (by omega), if_pos hk, if_neg h]
theorem flow_no {x : Option (List UInt8)} (hk : uintV x = 0 ∨ 3 < uintV x) : flow x = none := by
  unfold flow; rw [if_neg (by omega), if_neg (by omega), if_neg (by omega)]
set_option maxRecDepth 100000 in
set_option maxHeartbeats 1000000 in
theorem flowC1 {W w : World} {L : List Asn} {b bx : Nat} {x : Option (List UInt8)} (H : Own W w (rdA b x :: blk bx (.cells #[ei 0, ei 0, ei 0, ei 0, .string ⟨#[]⟩] 113) :: L)) (hk : uintV x = 1) :
    Calls Tryz.prog 157 #[.agg #[ptr b], ptr bx] w (FlowPost W b bx L (flow x)) := by
  have H1 := H.alloc (.cells #[ptr b] 137)
  have hkn := num_ok H1.front2 3 (by decide) (by omega)
  rw [hk] at hkn
  by_cases hb : balOk (uintR x)
  rotate_left
  · rw [flow_1n hk (fun h => hb h.1)]
    go_enter Tryz.func157, Tryz.ntmps157
    go_wp2_with fail
    refine hkn.mono ?_
    rintro e w1 ⟨rfl, H2⟩
    have hf2 := H2.front3.free
    have hc2 := H2.front3.cell
    have H3 := H2.front3.set 0 (ei 1)
    simp only [List.setIfInBounds_toArray, List.set_cons_succ, List.set_cons_zero] at H3
    have hc3 := H3.cell
    have hf3 := H3.free
    have hb3 := H3.front3.cell
    go_wp2_with (go_at_call 159; refine (need_yes rfl _).mono ?_; rintro e w2 ⟨rfl, rfl⟩)
    refine (bal_bad H3.front2 hb).mono ?_
    rintro e w2 ⟨rfl, H4⟩
    exact ⟨rfl, rfl, H4.drop.drop⟩
  by_cases hg : (balV (uintR x)).good
  rotate_left
  · rw [flow_1n hk (fun h => hg h.2)]
    have hck := checkedP_no (b := balV (uintR x)) (w := false) (fun h => hg h.2)
    generalize hbl : balV (uintR x) = bl at *
    go_enter Tryz.func157, Tryz.ntmps157
    go_wp2_with fail
    refine hkn.mono ?_
    rintro e w1 ⟨rfl, H2⟩
    have hf2 := H2.front3.free
    have hc2 := H2.front3.cell
    have H3 := H2.front3.set 0 (ei 1)
    simp only [List.setIfInBounds_toArray, List.set_cons_succ, List.set_cons_zero] at H3
    have hc3 := H3.cell
    have hf3 := H3.free
    have hb3 := H3.front3.cell
    go_wp2_with (go_at_call 159; refine (need_yes rfl _).mono ?_; rintro e w2 ⟨rfl, rfl⟩)
    refine (bal_ok H3.front2 hb).mono ?_
    rintro e w2 ⟨rfl, H4⟩
    have hf4 := H4.front2.free
    have hc4 := H4.front2.cell
    have H5 := (H4.front2.set 1 (ei bl.r)).set 2 (ei bl.n)
    simp only [List.setIfInBounds_toArray, List.set_cons_succ, List.set_cons_zero] at H5
    have hc5 := H5.cell
    have hb5 := H5.front3.cell
    rw [hbl]
    go_wp2_with fail
    refine (checkedC bl false _).mono ?_
    rintro e w3 ⟨rfl, hB⟩
    rw [hck]
    have H6 := H5.grown hB
    have hc6 := H6.cell
    have hf6 := H6.free
    have hb6 := H6.front3.cell
    go_wp2_with fail
    refine (need_no rfl _).mono ?_
    rintro e w4 ⟨rfl, rfl⟩
    exact ⟨rfl, rfl, H6.drop.drop.drop⟩
  · rw [flow_1 hk ⟨hb, hg⟩]
    have hck := checkedP_yes (b := balV (uintR x)) (w := false) ⟨rfl, hg⟩
    generalize hbl : balV (uintR x) = bl at *
    go_enter Tryz.func157, Tryz.ntmps157
    go_wp2_with fail
    refine hkn.mono ?_
    rintro e w1 ⟨rfl, H2⟩
    have hf2 := H2.front3.free
    have hc2 := H2.front3.cell
    have H3 := H2.front3.set 0 (ei 1)
    simp only [List.setIfInBounds_toArray, List.set_cons_succ, List.set_cons_zero] at H3
    have hc3 := H3.cell
    have hf3 := H3.free
    have hb3 := H3.front3.cell
    go_wp2_with (go_at_call 159; refine (need_yes rfl _).mono ?_; rintro e w2 ⟨rfl, rfl⟩)
    refine (bal_ok H3.front2 hb).mono ?_
    rintro e w2 ⟨rfl, H4⟩
    have hf4 := H4.front2.free
    have hc4 := H4.front2.cell
    have H5 := (H4.front2.set 1 (ei bl.r)).set 2 (ei bl.n)
    simp only [List.setIfInBounds_toArray, List.set_cons_succ, List.set_cons_zero] at H5
    have hc5 := H5.cell
    have hb5 := H5.front3.cell
    rw [hbl]
    go_wp2_with fail
    refine (checkedC bl false _).mono ?_
    rintro e w3 ⟨rfl, hB⟩
    rw [hck]
    have H6 := H5.grown hB
    have hc6 := H6.cell
    have hf6 := H6.free
    have hb6 := H6.front3.cell
    go_wp2_with (go_at_call 159; refine (need_yes rfl _).mono ?_; rintro e w4 ⟨rfl, rfl⟩)
    refine bodyPost_end (results_none rfl _ _ _) rfl ?_
    exact ⟨rfl, H6.front2.drop3⟩
set_option maxRecDepth 100000 in
set_option maxHeartbeats 1000000 in
theorem flowC2 {W w : World} {L : List Asn} {b bx : Nat} {x : Option (List UInt8)} (H : Own W w (rdA b x :: blk bx (.cells #[ei 0, ei 0, ei 0, ei 0, .string ⟨#[]⟩] 113) :: L)) (hk : uintV x = 2) :
    Calls Tryz.prog 157 #[.agg #[ptr b], ptr bx] w (FlowPost W b bx L (flow x)) := by
  have H1 := H.alloc (.cells #[ptr b] 137)
  have hkn := num_ok H1.front2 3 (by decide) (by omega)
  rw [hk] at hkn
  by_cases hb : balOk (uintR x)
  rotate_left
  · rw [flow_2n hk (fun h => hb h.1)]
    go_enter Tryz.func157, Tryz.ntmps157
    go_wp2_with fail
    refine hkn.mono ?_
    rintro e w1 ⟨rfl, H2⟩
    have hf2 := H2.front3.free
    have hc2 := H2.front3.cell
    have H3 := H2.front3.set 0 (ei 2)
    simp only [List.setIfInBounds_toArray, List.set_cons_succ, List.set_cons_zero] at H3
    have hc3 := H3.cell
    have hf3 := H3.free
    have hb3 := H3.front3.cell
    go_wp2_with (go_at_call 159; refine (need_yes rfl _).mono ?_; rintro e w2 ⟨rfl, rfl⟩)
    refine (bal_bad H3.front2 hb).mono ?_
    rintro e w2 ⟨rfl, H4⟩
    exact ⟨rfl, rfl, H4.drop.drop⟩
  by_cases hg : (balV (uintR x)).good
  rotate_left
  · rw [flow_2n hk (fun h => hg h.2.1)]
    have hck := checkedP_no (b := balV (uintR x)) (w := false) (fun h => hg h.2)
    generalize hbl : balV (uintR x) = bl at *
    go_enter Tryz.func157, Tryz.ntmps157
    go_wp2_with fail
    refine hkn.mono ?_
    rintro e w1 ⟨rfl, H2⟩
    have hf2 := H2.front3.free
    have hc2 := H2.front3.cell
    have H3 := H2.front3.set 0 (ei 2)
    simp only [List.setIfInBounds_toArray, List.set_cons_succ, List.set_cons_zero] at H3
    have hc3 := H3.cell
    have hf3 := H3.free
    have hb3 := H3.front3.cell
    go_wp2_with (go_at_call 159; refine (need_yes rfl _).mono ?_; rintro e w2 ⟨rfl, rfl⟩)
    refine (bal_ok H3.front2 hb).mono ?_
    rintro e w2 ⟨rfl, H4⟩
    have hf4 := H4.front2.free
    have hc4 := H4.front2.cell
    have H5 := (H4.front2.set 1 (ei bl.r)).set 2 (ei bl.n)
    simp only [List.setIfInBounds_toArray, List.set_cons_succ, List.set_cons_zero] at H5
    have hc5 := H5.cell
    have hb5 := H5.front3.cell
    rw [hbl]
    go_wp2_with fail
    refine (checkedC bl false _).mono ?_
    rintro e w3 ⟨rfl, hB⟩
    rw [hck]
    have H6 := H5.grown hB
    have hc6 := H6.cell
    have hf6 := H6.free
    have hb6 := H6.front3.cell
    go_wp2_with fail
    refine (need_no rfl _).mono ?_
    rintro e w4 ⟨rfl, rfl⟩
    exact ⟨rfl, rfl, H6.drop.drop.drop⟩
  by_cases hs : uintV (uintR (uintR (uintR x))) ≤ 4095
  · rw [flow_2 hk ⟨hb, hg, hs⟩]
    have hck := checkedP_yes (b := balV (uintR x)) (w := false) ⟨rfl, hg⟩
    generalize hbl : balV (uintR x) = bl at *
    go_enter Tryz.func157, Tryz.ntmps157
    go_wp2_with fail
    refine hkn.mono ?_
    rintro e w1 ⟨rfl, H2⟩
    have hf2 := H2.front3.free
    have hc2 := H2.front3.cell
    have H3 := H2.front3.set 0 (ei 2)
    simp only [List.setIfInBounds_toArray, List.set_cons_succ, List.set_cons_zero] at H3
    have hc3 := H3.cell
    have hf3 := H3.free
    have hb3 := H3.front3.cell
    go_wp2_with (go_at_call 159; refine (need_yes rfl _).mono ?_; rintro e w2 ⟨rfl, rfl⟩)
    refine (bal_ok H3.front2 hb).mono ?_
    rintro e w2 ⟨rfl, H4⟩
    have hf4 := H4.front2.free
    have hc4 := H4.front2.cell
    have H5 := (H4.front2.set 1 (ei bl.r)).set 2 (ei bl.n)
    simp only [List.setIfInBounds_toArray, List.set_cons_succ, List.set_cons_zero] at H5
    have hc5 := H5.cell
    have hb5 := H5.front3.cell
    rw [hbl]
    go_wp2_with fail
    refine (checkedC bl false _).mono ?_
    rintro e w3 ⟨rfl, hB⟩
    rw [hck]
    have H6 := H5.grown hB
    have hc6 := H6.cell
    have hf6 := H6.free
    have hb6 := H6.front3.cell
    go_wp2_with (go_at_call 159; refine (need_yes rfl _).mono ?_; rintro e w4 ⟨rfl, rfl⟩)
    refine (num_ok H6.front2 4095 (by decide) hs).mono ?_
    rintro e w5 ⟨rfl, H7⟩
    have hf7 := H7.front2.free
    have hc7 := H7.front2.cell
    have H8 := H7.front2.set 3 (ei (uintV (uintR (uintR (uintR x)))))
    simp only [List.setIfInBounds_toArray, List.set_cons_succ, List.set_cons_zero] at H8
    have hc8 := H8.cell
    have hf8 := H8.free
    have hb8 := H8.front3.cell
    go_wp2_with fail
    refine (rdTextC H8.front2).mono ?_
    rintro e w6 ⟨rfl, H9⟩
    have hf9 := H9.front2.free
    have hc9 := H9.front2.cell
    have H10 := H9.front2.set 4 (.string ⟨(textV (uintR (uintR (uintR (uintR x))))).toArray⟩)
    simp only [List.setIfInBounds_toArray, List.set_cons_succ, List.set_cons_zero] at H10
    go_wp2_with fail
    refine bodyPost_end (results_none rfl _ _ _) rfl ?_
    exact ⟨rfl, H10.front2.drop3⟩
  · rw [flow_2n hk (fun h => hs h.2.2)]
    have hck := checkedP_yes (b := balV (uintR x)) (w := false) ⟨rfl, hg⟩
    generalize hbl : balV (uintR x) = bl at *
    go_enter Tryz.func157, Tryz.ntmps157
    go_wp2_with fail
    refine hkn.mono ?_
    rintro e w1 ⟨rfl, H2⟩
    have hf2 := H2.front3.free
    have hc2 := H2.front3.cell
    have H3 := H2.front3.set 0 (ei 2)
    simp only [List.setIfInBounds_toArray, List.set_cons_succ, List.set_cons_zero] at H3
    have hc3 := H3.cell
    have hf3 := H3.free
    have hb3 := H3.front3.cell
    go_wp2_with (go_at_call 159; refine (need_yes rfl _).mono ?_; rintro e w2 ⟨rfl, rfl⟩)
    refine (bal_ok H3.front2 hb).mono ?_
    rintro e w2 ⟨rfl, H4⟩
    have hf4 := H4.front2.free
    have hc4 := H4.front2.cell
    have H5 := (H4.front2.set 1 (ei bl.r)).set 2 (ei bl.n)
    simp only [List.setIfInBounds_toArray, List.set_cons_succ, List.set_cons_zero] at H5
    have hc5 := H5.cell
    have hb5 := H5.front3.cell
    rw [hbl]
    go_wp2_with fail
    refine (checkedC bl false _).mono ?_
    rintro e w3 ⟨rfl, hB⟩
    rw [hck]
    have H6 := H5.grown hB
    have hc6 := H6.cell
    have hf6 := H6.free
    have hb6 := H6.front3.cell
    go_wp2_with (go_at_call 159; refine (need_yes rfl _).mono ?_; rintro e w4 ⟨rfl, rfl⟩)
    refine (num_bad H6.front2 4095 (by decide) (by omega)).mono ?_
    rintro e w5 ⟨rfl, H7⟩
    exact ⟨rfl, rfl, H7.drop.drop⟩
set_option maxRecDepth 100000 in
set_option maxHeartbeats 1000000 in
theorem flowC3 {W w : World} {L : List Asn} {b bx : Nat} {x : Option (List UInt8)} (H : Own W w (rdA b x :: blk bx (.cells #[ei 0, ei 0, ei 0, ei 0, .string ⟨#[]⟩] 113) :: L)) (hk : uintV x = 3) :
    Calls Tryz.prog 157 #[.agg #[ptr b], ptr bx] w (FlowPost W b bx L (flow x)) := by
  have H1 := H.alloc (.cells #[ptr b] 137)
  have hkn := num_ok H1.front2 3 (by decide) (by omega)
  rw [hk] at hkn
  by_cases hs : uintV (uintR x) ≤ 4095
  · rw [flow_3 hk hs]
    go_enter Tryz.func157, Tryz.ntmps157
    go_wp2_with fail
    refine hkn.mono ?_
    rintro e w1 ⟨rfl, H2⟩
    have hf2 := H2.front3.free
    have hc2 := H2.front3.cell
    have H3 := H2.front3.set 0 (ei 3)
    simp only [List.setIfInBounds_toArray, List.set_cons_succ, List.set_cons_zero] at H3
    have hc3 := H3.cell
    have hf3 := H3.free
    have hb3 := H3.front3.cell
    go_wp2_with (go_at_call 159; refine (need_yes rfl _).mono ?_; rintro e w2 ⟨rfl, rfl⟩)
    refine (num_ok H3.front2 4095 (by decide) hs).mono ?_
    rintro e w5 ⟨rfl, H7⟩
    have hf7 := H7.front2.free
    have hc7 := H7.front2.cell
    have H8 := H7.front2.set 3 (ei (uintV (uintR x)))
    simp only [List.setIfInBounds_toArray, List.set_cons_succ, List.set_cons_zero] at H8
    have hc8 := H8.cell
    have hf8 := H8.free
    have hb8 := H8.front3.cell
    go_wp2_with fail
    refine (rdTextC H8.front2).mono ?_
    rintro e w6 ⟨rfl, H9⟩
    have hf9 := H9.front2.free
    have hc9 := H9.front2.cell
    have H10 := H9.front2.set 4 (.string ⟨(textV (uintR (uintR x))).toArray⟩)
    simp only [List.setIfInBounds_toArray, List.set_cons_succ, List.set_cons_zero] at H10
    go_wp2_with fail
    refine bodyPost_end (results_none rfl _ _ _) rfl ?_
    exact ⟨rfl, H10.front2.drop3⟩
  · rw [flow_3n hk hs]
    go_enter Tryz.func157, Tryz.ntmps157
    go_wp2_with fail
    refine hkn.mono ?_
    rintro e w1 ⟨rfl, H2⟩
    have hf2 := H2.front3.free
    have hc2 := H2.front3.cell
    have H3 := H2.front3.set 0 (ei 3)
    simp only [List.setIfInBounds_toArray, List.set_cons_succ, List.set_cons_zero] at H3
    have hc3 := H3.cell
    have hf3 := H3.free
    have hb3 := H3.front3.cell
    go_wp2_with (go_at_call 159; refine (need_yes rfl _).mono ?_; rintro e w2 ⟨rfl, rfl⟩)
    refine (num_bad H3.front2 4095 (by decide) (by omega)).mono ?_
    rintro e w5 ⟨rfl, H7⟩
    exact ⟨rfl, rfl, H7.drop.drop⟩
set_option maxRecDepth 100000 in
set_option maxHeartbeats 1000000 in
theorem flowC {W w : World} {L : List Asn} {b bx : Nat} {x : Option (List UInt8)} (H : Own W w (rdA b x :: blk bx (.cells #[ei 0, ei 0, ei 0, ei 0, .string ⟨#[]⟩] 113) :: L)) :
    Calls Tryz.prog 157 #[.agg #[ptr b], ptr bx] w (FlowPost W b bx L (flow x)) := by
  by_cases h1 : uintV x = 1
  · exact flowC1 H h1
  by_cases h2 : uintV x = 2
  · exact flowC2 H h2
  by_cases h3 : uintV x = 3
  · exact flowC3 H h3
  rw [flow_no (by omega)]
  have H1 := H.alloc (.cells #[ptr b] 137)
  by_cases h0 : uintV x = 0
  · have hkn := num_ok H1.front2 3 (by decide) (by omega)
    rw [h0] at hkn
    go_enter Tryz.func157, Tryz.ntmps157
    go_wp2_with fail
    refine hkn.mono ?_
    rintro e w1 ⟨rfl, H2⟩
    have hf2 := H2.front3.free
    have hc2 := H2.front3.cell
    have H3 := H2.front3.set 0 (ei 0)
    simp only [List.setIfInBounds_toArray, List.set_cons_succ, List.set_cons_zero] at H3
    have hc3 := H3.cell
    go_wp2_with fail
    refine (need_no rfl _).mono ?_
    rintro e w4 ⟨rfl, rfl⟩
    exact ⟨rfl, rfl, H3.drop.drop.drop⟩
  · go_enter Tryz.func157, Tryz.ntmps157
    go_wp2_with fail
    refine (num_bad H1.front2 3 (by decide) (by omega)).mono ?_
    rintro e w1 ⟨rfl, H2⟩
    exact ⟨rfl, rfl, H2.drop.drop⟩
/-- What bytes are read as. -/
def parseP (s : List UInt8) : Option Rec := if s.length ≤ 65536 then (match flow (some s) with | some (r, some []) => some r | _ => none) else none
theorem parseP_long {s : List UInt8} (h : ¬ s.length ≤ 65536) : parseP s = none := if_neg h
theorem parseP_ok {s : List UInt8} {r : Rec} (h : s.length ≤ 65536) (hf : flow (some s) = some (r, some [])) : parseP s = some r := by unfold parseP; rw [if_pos h, hf]
theorem parseP_panic {s : List UInt8} (hf : flow (some s) = none) : parseP s = none := by unfold parseP; rw [hf]; split <;> rfl
theorem parseP_rest {s : List UInt8} {r : Rec} {x : Option (List UInt8)} (hf : flow (some s) = some (r, x)) (hx : x ≠ some []) : parseP s = none := by
  unfold parseP; rw [hf]
  split
  · rcases x with _ | _ | _
    · rfl
    · exact absurd rfl hx
    · rfl
  · rfl
def Rec.v (r : Rec) : Value := .agg #[ei r.kind, ei r.b.r, ei r.b.n, ei r.slot, .string ⟨r.value.toArray⟩]
def Rec.zero : Rec := ⟨0, Bal.zero, 0, []⟩
def parseV (o : Option Rec) : Value := match o with | some r => .tuple #[r.v, .bool true] | none => .tuple #[Rec.zero.v, .bool false]
set_option maxRecDepth 100000 in
set_option maxHeartbeats 1000000 in
theorem parseC {W w : World} {L : List Asn} {v : Value} {s : List UInt8} (H : Own W w L) (hr : RdW w 1 v s.length (s.map byteV)) (hn : s.length ≤ 140737488355328) :
    Calls Tryz.prog 76 #[v] w fun e w' => e = .returned (parseV (parseP s)) ∧ Own W w' L := by
  have hmf : ∀ (fn : Fn) (first cap : Array Value) (w : World), (Instr.makeFunc fn first cap).run Tryz.prog w = .ok (.func fn first cap) w := fun _ _ _ _ => rfl
  have H1 := (H.alloc (.cells #[ei 0, ei 0, ei 0, ei 0, .string ⟨#[]⟩] 113)).alloc (.cells #[ei 0, ei 0, ei 0, ei 0, .string ⟨#[]⟩] 113)
  rw [World.size_alloc] at H1
  have hr1 := (hr.alloc (.cells #[ei 0, ei 0, ei 0, ei 0, .string ⟨#[]⟩] 113)).alloc (.cells #[ei 0, ei 0, ei 0, ei 0, .string ⟨#[]⟩] 113)
  have hr0 := Lib.hid hr1
  obtain ⟨_, A, c, rfl, _⟩ := hr1
  by_cases hl : s.length ≤ 65536
  · have q : ((s.length : Int) ≤ 65536) := by omega
    go_enter Tryz.func76, Tryz.ntmps76
    go_wp2_with fail
    refine (readingC (Ok := fun x => exi (fun rc : Rec => grp [pur (flow (some s) = some (rc, x)), blk (w.heap.size + 1) (recObj rc.cells)]) :: blk w.heap.size (.cells #[ei 0, ei 0, ei 0, ei 0, .string ⟨#[]⟩] 113) :: L) (Bad := pur (flow (some s) = none) :: blk w.heap.size (.cells #[ei 0, ei 0, ei 0, ei 0, .string ⟨#[]⟩] 113) :: L) H1 hr0.out hn (enters_of Tryz.func157 (by kernel_rfl) rfl) ?_).mono ?_
    · intro b w1 M HM
      refine (flowC HM).mono ?_
      intro e w2 hp
      rcases hfl : flow (some s) with _ | ⟨rc, x⟩
      · rw [hfl] at hp
        exact .inr ⟨hp.1, Own.pur_iff.2 ⟨rfl, hp.2⟩⟩
      · rw [hfl] at hp
        refine .inl ⟨hp.1, x, ?_⟩
        refine Own.front2 (Own.exi_iff.2 ⟨rc, Own.grp_iff.2 (Own.pur_iff.2 ⟨rfl, hp.2.front2⟩)⟩)
    · rintro e w2 (⟨rfl, H2⟩ | ⟨rfl, H2⟩ | ⟨x, hx, rfl, H2⟩)
      · obtain ⟨rc, H3⟩ := Own.exi_iff.1 H2
        obtain ⟨hfl, H4⟩ := Own.pur_iff.1 (Own.grp_iff.1 H3)
        have hp := Lib.hid (parseP_ok hl hfl)
        clear hfl
        have hc4 := H4.cell
        simp only [Rec.cells] at hc4
        have H5 := H4.front2
        have hc5 := H5.cell
        have hf5 := H5.free
        have H6 := ((((H5.set 0 (ei rc.kind)).set 1 (ei rc.b.r)).set 2 (ei rc.b.n)).set 3 (ei rc.slot)).set 4 (.string ⟨rc.value.toArray⟩)
        simp only [List.setIfInBounds_toArray, List.set_cons_succ, List.set_cons_zero] at H6
        have hc6 := H6.cell
        go_wp2_with fail
        refine bodyPost_ret (v := .tuple #[rc.v, .bool true]) (by simp [results, Tryz.results76, go_sem, Rec.v, hc6]) rfl ?_
        rw [hp.out]
        exact ⟨rfl, H6.drop.drop⟩
      · obtain ⟨hfl, H5⟩ := Own.pur_iff.1 H2
        have hp := Lib.hid (parseP_panic hfl)
        clear hfl
        have hc5 := H5.cell
        have hf5 := H5.free
        have H6 := ((((H5.set 0 (ei 0)).set 1 (ei 0)).set 2 (ei 0)).set 3 (ei 0)).set 4 (.string ⟨#[]⟩)
        simp only [List.setIfInBounds_toArray, List.set_cons_succ, List.set_cons_zero] at H6
        have hc6 := H6.cell
        go_wp2_with fail
        refine bodyPost_ret (v := .tuple #[Rec.zero.v, .bool false]) (by simp [results, Tryz.results76, go_sem, Rec.v, Rec.zero, hc6]) rfl ?_
        rw [hp.out]
        exact ⟨rfl, by first | exact H6.drop | exact H6.drop.drop⟩
      · obtain ⟨rc, H3⟩ := Own.exi_iff.1 H2
        obtain ⟨hfl, H4⟩ := Own.pur_iff.1 (Own.grp_iff.1 H3)
        have hp := Lib.hid (parseP_rest hfl hx)
        clear hfl
        have H5 := H4.front2
        have hc5 := H5.cell
        have hf5 := H5.free
        have H6 := ((((H5.set 0 (ei 0)).set 1 (ei 0)).set 2 (ei 0)).set 3 (ei 0)).set 4 (.string ⟨#[]⟩)
        simp only [List.setIfInBounds_toArray, List.set_cons_succ, List.set_cons_zero] at H6
        have hc6 := H6.cell
        go_wp2_with fail
        refine bodyPost_ret (v := .tuple #[Rec.zero.v, .bool false]) (by simp [results, Tryz.results76, go_sem, Rec.v, Rec.zero, hc6]) rfl ?_
        rw [hp.out]
        exact ⟨rfl, by first | exact H6.drop | exact H6.drop.drop⟩
  · rw [parseP_long hl]
    have q : ¬ ((s.length : Int) ≤ 65536) := by omega
    go_enter Tryz.func76, Tryz.ntmps76
    go_wp2_with fail
    refine bodyPost_ret (v := .tuple #[Rec.zero.v, .bool false]) (by simp [results, Tryz.results76, go_sem, Rec.v, Rec.zero]) rfl ?_
    exact ⟨rfl, H1.drop.drop⟩
def parseR (o : Option Rec) : Value := match o with | some r => .tuple #[ei r.kind, r.b.v, ei r.slot, .string ⟨r.value.toArray⟩, ei 0] | none => .tuple #[ei 0, Bal.zero.v, ei 0, .string ⟨#[]⟩, ei 10]
set_option maxRecDepth 100000 in
set_option maxHeartbeats 1000000 in
theorem parseRecC {W w : World} {L : List Asn} {v : Value} {s : List UInt8} (H : Own W w L) (hr : RdW w 1 v s.length (s.map byteV)) (hn : s.length ≤ 140737488355328) :
    Calls Tryz.prog 18 #[v] w fun e w' => e = .returned (parseR (parseP s)) ∧ Own W w' L := by
  have H1 := H.alloc (.cells #[ei 0, ei 0] 23)
  have hr1 := hr.alloc (.cells #[ei 0, ei 0] 23)
  rcases hp : parseP s with _ | rc
  · have hpc := parseC H1 hr1 hn
    rw [hp] at hpc
    simp only [parseV, Rec.v, Rec.zero] at hpc
    clear hp
    go_enter Tryz.func18, Tryz.ntmps18
    go_wp2_with fail
    refine hpc.mono ?_
    rintro e w1 ⟨rfl, H2⟩
    have H2' := H2.alloc (.cells #[ei 0, ei 0, ei 0, ei 0, .string ⟨#[]⟩] 113)
    have hc2 := H2'.front2.cell
    have hf2 := H2'.front2.free
    have H3 := (H2'.front2.set 0 (ei 0)).set 1 (ei 0)
    simp only [List.setIfInBounds_toArray, List.set_cons_succ, List.set_cons_zero] at H3
    have hc3 := H3.cell
    go_wp2_with fail
    refine bodyPost_ret (v := .tuple #[ei 0, Bal.zero.v, ei 0, .string ⟨#[]⟩, ei 10]) (by simp [results, Tryz.results18, go_sem, hc3]) rfl ?_
    exact ⟨rfl, H3.drop.drop⟩
  · have hpc := parseC H1 hr1 hn
    rw [hp] at hpc
    simp only [parseV, Rec.v, Rec.zero] at hpc
    clear hp
    go_enter Tryz.func18, Tryz.ntmps18
    go_wp2_with fail
    refine hpc.mono ?_
    rintro e w1 ⟨rfl, H2⟩
    have H3 := H2.alloc (.cells #[ei rc.kind, ei rc.b.r, ei rc.b.n, ei rc.slot, .string ⟨rc.value.toArray⟩] 113)
    have hc3 := H3.front2.cell
    have hf3 := H3.front2.free
    have hd3 := H3.cell
    go_wp2_with fail
    have H4 := (H3.front2.set 0 (ei rc.b.r)).set 1 (ei rc.b.n)
    simp only [List.setIfInBounds_toArray, List.set_cons_succ, List.set_cons_zero] at H4
    have hc4 := H4.cell
    refine (wpIn_wide (n := 0)).1 ?_
    refine region_fl [0, 1, 2, 3, 4, 5, 6, 7, 8] [9, 10, 11, 12] [11, 12] (fun w' => ∀ i, w'.cell? ⟨w1.heap.size, i, none⟩ = #[ei rc.kind, ei rc.b.r, ei rc.b.n, ei rc.slot, .string ⟨rc.value.toArray⟩][i]?) (fun _ => trivial) (by kernel_rfl) (by kernel_rfl) ?hS ?_
    case hS => go_simp
    apply hd_on (i := 0) rfl rfl
    · (intro w' hS; go_simp; try rfl)
    simp only [List.getElem_toArray, List.getElem_cons_succ, List.getElem_cons_zero, Act.put, List.setIfInBounds_toArray, List.set_cons_succ, List.set_cons_zero]
    apply hd_on (i := 1) rfl rfl
    · (intro w' hS; go_simp; try rfl)
    simp only [List.getElem_toArray, List.getElem_cons_succ, List.getElem_cons_zero, Act.put, List.setIfInBounds_toArray, List.set_cons_succ, List.set_cons_zero]
    apply hd_on (i := 2) rfl rfl
    · (intro w' hS; go_simp; try rfl)
    simp only [List.getElem_toArray, List.getElem_cons_succ, List.getElem_cons_zero, Act.put, List.setIfInBounds_toArray, List.set_cons_succ, List.set_cons_zero]
    apply hd_on (i := 3) rfl rfl
    · (intro w' hS; go_simp; try rfl)
    simp only [List.getElem_toArray, List.getElem_cons_succ, List.getElem_cons_zero, Act.put, List.setIfInBounds_toArray, List.set_cons_succ, List.set_cons_zero]
    apply hd_on (i := 4) rfl rfl
    · (intro w' hS; go_simp; try rfl)
    simp only [List.getElem_toArray, List.getElem_cons_succ, List.getElem_cons_zero, Act.put, List.setIfInBounds_toArray, List.set_cons_succ, List.set_cons_zero]
    apply hd_on (i := 5) rfl rfl
    · (intro w' hS; go_simp; try rfl)
    simp only [List.getElem_toArray, List.getElem_cons_succ, List.getElem_cons_zero, Act.put, List.setIfInBounds_toArray, List.set_cons_succ, List.set_cons_zero]
    apply hd_on (i := 6) rfl rfl
    · (intro w' hS; go_simp; try rfl)
    simp only [List.getElem_toArray, List.getElem_cons_succ, List.getElem_cons_zero, Act.put, List.setIfInBounds_toArray, List.set_cons_succ, List.set_cons_zero]
    apply hd_on (i := 7) rfl rfl
    · (intro w' hS; go_simp; try rfl)
    simp only [List.getElem_toArray, List.getElem_cons_succ, List.getElem_cons_zero, Act.put, List.setIfInBounds_toArray, List.set_cons_succ, List.set_cons_zero]
    apply hd_on (i := 8) rfl rfl
    · (intro w' hS; go_simp; try rfl)
    simp only [List.getElem_toArray, List.getElem_cons_succ, List.getElem_cons_zero, Act.put, List.setIfInBounds_toArray, List.set_cons_succ, List.set_cons_zero]
    refine hd_nil ?_
    refine tl_on (i := 9) (fun _ => trivial) (fun _ h => by cases h) rfl rfl (fun K hK => ?_)
    go_simp
    refine hK _ _ ⟨fun _ => ?_, ?_⟩
    · (exact (H4.drew.front2).cell)
    clear hK K
    refine tl_on (i := 10) (fun _ => trivial) (fun _ h => by cases h) rfl rfl (fun K hK => ?_)
    go_simp
    refine hK _ _ ⟨fun _ => ?_, ?_⟩
    · (exact (H4.drew.front2).cell)
    clear hK K
    refine tl_on (i := 11) (fun _ => trivial) (fun _ h => by cases h) rfl rfl (fun K hK => ?_)
    go_simp
    refine hK _ _ ⟨fun h => by simp at h, ?_⟩
    clear hK K
    refine tl_on (i := 12) (fun _ => trivial) (fun _ h => by cases h) rfl rfl (fun K hK => ?_)
    go_simp
    refine hK _ _ ⟨fun h => by simp at h, ?_⟩
    clear hK K
    refine tl_nil ?_
    go_wp2_with fail
    refine bodyPost_ret (v := .tuple #[ei rc.kind, rc.b.v, ei rc.slot, .string ⟨rc.value.toArray⟩, ei 0]) (by simp [results, Tryz.results18, go_sem, hc4]) rfl ?_
    exact ⟨rfl, H4.drew.drop.drop⟩
end Sk
/- What a node remembers: plain definitions over acceptors and logs. -/
namespace Sk
open Go Go.RowKit
theorem Log.ok.ext {s t : Log} (hs : s.ok) (ht : t.ok) (hv : s.val = t.val) (hb : s.base = t.base) : s = t := by
  have h1 : s.upto = t.upto := by
    rcases Int.lt_trichotomy s.upto t.upto with h | h | h
    · have := ht.full s.upto (by have := hs.bu; omega) h
      rw [← hv] at this; exact absurd hs.miss this
    · exact h
    · have := hs.full t.upto (by have := ht.bu; omega) h
      rw [hv] at this; exact absurd ht.miss this
  have h2 : s.top = t.top := by
    have a1 := hs.last; have a2 := ht.last
    have b1 := hs.bu; have b2 := hs.ut; have b3 := ht.bu; have b4 := ht.ut
    rcases Int.lt_trichotomy s.top t.top with h | h | h
    · rcases a2 with a2 | a2
      · omega
      · rw [← hv] at a2; have := hs.val _ a2; omega
    · exact h
    · rcases a1 with a1 | a1
      · omega
      · rw [hv] at a1; have := ht.val _ a1; omega
  cases s; cases t; simp_all
open Classical in
/-- The log with these values and this base. -/
noncomputable def mkLog (val : Int → Option Bs) (base : Int) : Log := if h : ∃ t : Log, t.ok ∧ t.val = val ∧ t.base = base then choose h else ⟨val, base, base, base⟩
theorem mkLog_eq {t : Log} (h : t.ok) : t = mkLog t.val t.base := by
  have hx : ∃ u : Log, u.ok ∧ u.val = t.val ∧ u.base = t.base := ⟨t, h, rfl, rfl⟩
  unfold mkLog
  rw [dif_pos hx]
  obtain ⟨h1, h2, h3⟩ := Classical.choose_spec hx
  exact h.ext h1 h2.symm h3.symm
theorem mkLog_of {t : Log} {val : Int → Option Bs} {base : Int} (h : t.ok) (h1 : t.val = val) (h2 : t.base = base) : t = mkLog val base := by
  subst h1; subst h2; exact mkLog_eq h
noncomputable def Log.put (s : Log) (k : Int) (v : Bs) : Log := if s.putE k v = 0 then mkLog (fset s.val k (some v)) s.base else s
noncomputable def Log.cut (s : Log) (u : Int) : Log := mkLog (cutF s.val u) u
noncomputable def Log.forget (s : Log) (u : Int) : Log := if s.forgetE u = 0 ∧ s.base < u then s.cut u else s
noncomputable def Log.jump (s : Log) (u : Int) : Log := if s.jumpE u = 0 then s.cut u else s
theorem putTo_eq {s t : Log} {k : Int} {v : Bs} (hs : s.ok) (h : s.putTo t k v) : t = s.put k v ∧ t.ok := by
  unfold Log.put
  rcases h with ⟨h, rfl⟩ | ⟨h, h1, h2, h3⟩
  · rw [if_neg h]; exact ⟨rfl, hs⟩
  · rw [if_pos h]; exact ⟨mkLog_of h3 h1 h2, h3⟩
theorem forgetTo_eq {s t : Log} {u : Int} (hs : s.ok) (h : s.forgetTo t u) : t = s.forget u ∧ t.ok := by
  unfold Log.forget
  rcases h with ⟨h, rfl⟩ | ⟨h, h', h1, h2, h3⟩
  · rw [if_neg h]; exact ⟨rfl, hs⟩
  · rw [if_pos ⟨h, h'⟩]; exact ⟨mkLog_of h3 h1 h2, h3⟩
theorem jumpTo_eq {s t : Log} {u : Int} (hs : s.ok) (h : s.jumpTo t u) : t = s.jump u ∧ t.ok := by
  unfold Log.jump
  rcases h with ⟨h, rfl⟩ | ⟨h, h1, h2, h3⟩
  · rw [if_neg h]; exact ⟨rfl, hs⟩
  · rw [if_pos h]; exact ⟨mkLog_of h3 h1 h2, h3⟩
def Log.new : Log := ⟨fun _ => none, 0, 0, 0⟩
theorem Log.new_ok : Log.new.ok := ⟨by decide, by decide, by decide, by decide, fun _ h => absurd rfl h, fun k h1 h2 => by simp [Log.new] at h1 h2; omega, rfl, .inl rfl, fun _ _ h => (nomatch h)⟩
/-- What holds of acceptors. -/
structure Acc.ok (s : Acc) : Prop where
  n1 : 1 ≤ s.n
  n7 : s.n ≤ 7
  b0 : 0 ≤ s.base
  b1 : s.base ≤ 4096
  ent : ∀ k x, s.ent k = some x → s.base ≤ k ∧ k < 4096 ∧ s.good x.1 ∧ x.2.size ≤ 65536
  prom : s.prom = Bal.zero ∨ s.good s.prom
theorem Acc.ok.slot {s : Acc} (h : s.ok) : ∀ k, s.ent k ≠ none → 0 ≤ k ∧ k < 4096 := fun k hk => by
  cases he : s.ent k with
  | none => exact absurd he hk
  | some x => have := h.ent k x he; have := h.b0; omega
def Acc.new (n : Int) : Acc := ⟨n, Bal.zero, fun _ => none, 0⟩
theorem Acc.new_ok {n : Int} (h1 : 1 ≤ n) (h2 : n ≤ 7) : (Acc.new n).ok := ⟨h1, h2, Int.le_refl _, (show (0:Int) ≤ 4096 by decide), fun _ _ h => (nomatch h), .inl rfl⟩
theorem Acc.ok.promise {s : Acc} (h : s.ok) (x : Bal) (u : Int) : (s.promise x u).2.ok := by
  unfold Acc.promise
  split
  · exact h
  · split
    · exact h
    · rename_i h1 _
      have hg : s.good x := Classical.not_not.1 fun h => h1 (.inl h)
      exact ⟨h.n1, h.n7, h.b0, h.b1, h.ent, .inr hg⟩
theorem Acc.ok.accept {s : Acc} (h : s.ok) (x : Bal) (k : Int) (v : Str) : (s.accept x k v).2.ok := by
  unfold Acc.accept
  split
  · exact h
  · split
    · exact h
    · split
      · exact h
      · split
        · exact h
        · rename_i h1 h2 _ h4
          have hg : s.good x := Classical.not_not.1 fun h => h1 (.inl h)
          refine ⟨h.n1, h.n7, h.b0, h.b1, fun i y hi => ?_, .inr hg⟩
          by_cases hik : i = k
          · subst hik
            simp [fset] at hi
            subst hi
            exact ⟨by show s.base ≤ i; omega, by omega, hg, by show v.size ≤ 65536; omega⟩
          · simp only [fset, if_neg hik] at hi
            exact h.ent i y hi
theorem Acc.ok.forget {s : Acc} (h : s.ok) (u : Int) : (s.forget u).2.ok := by
  unfold Acc.forget
  split
  · exact h
  · refine ⟨h.n1, h.n7, by have := h.b0; show 0 ≤ max s.base u; omega, by have := h.b1; show max s.base u ≤ 4096; omega, fun i y hi => ?_, h.prom⟩
    have hi : cutF s.ent u i = some y := hi
    unfold cutF at hi
    split at hi
    · cases hi
    · have := h.ent i y hi
      exact ⟨by show max s.base u ≤ i; omega, this.2⟩
/-- A record is done: the error, and the state. -/
noncomputable def doP (a : Acc) (l : Log) (r : Rec) : Int × Acc × Log :=
  if r.kind = 1 then ((a.promise r.b 0).1, (a.promise r.b 0).2, l) else if r.kind = 2 then ((a.accept r.b r.slot ⟨r.value.toArray⟩).1, (a.accept r.b r.slot ⟨r.value.toArray⟩).2, l)
  else (l.putE r.slot ⟨r.value.toArray⟩, a, l.put r.slot ⟨r.value.toArray⟩)
/-- Records are done, one after the other. -/
noncomputable def recsP (a : Acc) (l : Log) : List (List UInt8) → Option (Acc × Log)
  | [] => some (a, l)
  | s :: r => match parseP s with
    | none => none
    | some x => if (doP a l x).1 = 0 then recsP (doP a l x).2.1 (doP a l x).2.2 r else none
/-- A node's state. -/
structure NodeOk (a : Acc) (l : Log) : Prop where
  acc : a.ok
  log : l.ok
theorem logPutOk {s : Log} (hs : s.ok) {t : Log} {k : Int} {v : Bs} (h : s.putTo t k v) : t.ok := (putTo_eq hs h).2
end Sk
