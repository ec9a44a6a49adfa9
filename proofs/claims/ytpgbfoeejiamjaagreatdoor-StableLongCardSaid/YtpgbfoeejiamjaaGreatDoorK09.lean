/- Package crc: checksums. -/
import Derived.Test.YtpgbfoeejiamjaaGreatDoorK07
import Derived.Test.YtpgbfoeejiamjaaGreatDoorK03
import Derived.Laws.DeepBits32
import Derived.Test.YtpgbfoeejiamjaaGreatDoorProg
import Derived.Test.YtpgbfoeejiamjaaGreatDoorK06
import Derived.Lib.AppendZerosOnto
set_option linter.all false
set_option linter.unusedVariables false
set_option linter.unusedSimpArgs false
set_option linter.unusedSectionVars false
namespace Sk
open Go Go.RowKit Go.Proofs
/-- A step of the register. -/
def stepP (r : Nat) : Nat := if r % 2 = 1 then r / 2 ^^^ 3988292384 else r / 2
def foursT : List Nat := [0, 498536548, 997073096, 651767980, 1994146192, 1802195444, 1303535960, 1342533948, 3988292384, 4027552580, 3604390888, 3412177804, 2607071920, 2262029012, 2685067896, 3183342108]
def fourP (r : Nat) : Nat := r / 16 ^^^ foursT.getD (r % 16) 0
def eightP (r : Nat) : Nat := fourP (fourP r)
theorem xor_half (a b : Nat) : (a ^^^ b) / 2 = a / 2 ^^^ b / 2 := by
  have := Nat.shiftRight_xor_distrib (a := a) (b := b) (i := 1)
  simpa [Nat.shiftRight_eq_div_pow] using this
theorem xor_mod2 (a b : Nat) : (a ^^^ b) % 2 = (a + b) % 2 := by
  have h := Nat.testBit_xor a b 0
  simp only [Nat.testBit_zero] at h
  have ha := Nat.mod_two_eq_zero_or_one a
  have hb := Nat.mod_two_eq_zero_or_one b
  have hc := Nat.mod_two_eq_zero_or_one (a ^^^ b)
  rcases ha with ha | ha <;> rcases hb with hb | hb <;> rcases hc with hc | hc <;> simp [ha, hb, hc] at h <;> omega
theorem step_even {q c : Nat} (h : (q + c) % 2 = 0) : stepP (q ^^^ c) = q / 2 ^^^ c / 2 := by
  unfold stepP; rw [if_neg (by rw [xor_mod2]; omega), xor_half]
theorem step_odd {q c : Nat} (h : (q + c) % 2 = 1) : stepP (q ^^^ c) = q / 2 ^^^ (c / 2 ^^^ 3988292384) := by
  unfold stepP; rw [if_pos (by rw [xor_mod2]; omega), xor_half, Nat.xor_assoc]
/-- What one step makes of the constant part, by the register's own low bit. -/
def cst (b c : Nat) : Nat := if (b + c) % 2 = 1 then c / 2 ^^^ 3988292384 else c / 2
theorem step_cst (q c : Nat) : stepP (q ^^^ c) = q / 2 ^^^ cst (q % 2) c := by
  unfold cst
  by_cases h : (q + c) % 2 = 1
  · rw [step_odd h, if_pos (by omega)]
  · rw [step_even (by omega), if_neg (by omega)]
theorem four_small : ∀ k : Fin 16, cst (k.1 / 8 % 2) (cst (k.1 / 4 % 2) (cst (k.1 / 2 % 2) (cst (k.1 % 2) 0))) = foursT.getD k.1 0 := by decide +kernel
theorem four_steps (r : Nat) : stepP (stepP (stepP (stepP r))) = fourP r := by
  have h0 : r = r ^^^ 0 := by simp
  have h := four_small ⟨r % 16, by omega⟩
  simp only at h
  rw [h0, step_cst, step_cst, step_cst, step_cst]
  unfold fourP
  simp only [Nat.xor_zero]
  rw [← h]
  have e1 : r % 2 = r % 16 % 2 := by omega
  have e2 : r / 2 % 2 = r % 16 / 2 % 2 := by omega
  have e3 : r / 2 / 2 % 2 = r % 16 / 4 % 2 := by omega
  have e4 : r / 2 / 2 / 2 % 2 = r % 16 / 8 % 2 := by omega
  have e5 : r / 2 / 2 / 2 / 2 = r / 16 := by omega
  rw [e1, e2, e3, e4, e5]
theorem eight_steps (r : Nat) : stepP (stepP (stepP (stepP (stepP (stepP (stepP (stepP r))))))) = eightP r := by
  rw [four_steps, four_steps]; rfl
theorem foursT_lt : ∀ k : Fin 16, foursT.getD k.1 0 < 4294967296 := by decide
theorem fourP_lt {r : Nat} (h : r < 4294967296) : fourP r < 4294967296 := by
  have h1 := foursT_lt ⟨r % 16, by omega⟩
  simp only at h1
  unfold fourP
  exact Nat.xor_lt_two_pow (n := 32) (by omega) h1
theorem eightP_lt {r : Nat} (h : r < 4294967296) : eightP r < 4294967296 := fourP_lt (fourP_lt h)
theorem xor_u32 (a b : Nat) (ha : a < 4294967296) (hb : b < 4294967296) : bits .xor .u32 (a : Int) (b : Int) = ((a ^^^ b : Nat) : Int) := by
  have hx : a ^^^ b < 2 ^ 32 := Nat.xor_lt_two_pow (by omega) (by omega)
  have h1 : (BitVec.ofInt 32 (a : Int)).toNat = a := by
    rw [BitVec.ofInt_natCast, BitVec.toNat_ofNat]; exact Nat.mod_eq_of_lt (by omega)
  have h2 : (BitVec.ofInt 32 (b : Int)).toNat = b := by
    rw [BitVec.ofInt_natCast, BitVec.toNat_ofNat]; exact Nat.mod_eq_of_lt (by omega)
  show IntKind.u32.wrap ((BitVec.ofInt 32 (a : Int) ^^^ BitVec.ofInt 32 (b : Int)).toNat : Int) = _
  rw [BitVec.toNat_xor, h1, h2]
  simp [IntKind.wrap, IntKind.bits, IntKind.signed]
  omega
theorem and15_u32 (a : Nat) (ha : a < 4294967296) : bits .and .u32 (a : Int) 15 = ((a % 16 : Nat) : Int) := by
  have h1 : (BitVec.ofInt 32 (a : Int)).toNat = a := by
    rw [BitVec.ofInt_natCast, BitVec.toNat_ofNat]; exact Nat.mod_eq_of_lt (by omega)
  have e : a &&& 15 = a % 16 := Nat.and_two_pow_sub_one_eq_mod a 4
  show IntKind.u32.wrap ((BitVec.ofInt 32 (a : Int) &&& BitVec.ofInt 32 15).toNat : Int) = _
  rw [BitVec.toNat_and, h1]
  have h2 : (BitVec.ofInt 32 15).toNat = 15 := by decide
  rw [h2, e]
  simp [IntKind.wrap, IntKind.bits, IntKind.signed]
  omega
/-- The table lies where it was laid. -/
def Fours (w : World) : Prop := ∀ k, k < 16 → w.cell? ⟨1, k, none⟩ = some (.int .u32 (foursT.getD k 0 : Nat))
theorem Fours.bel {w w' : World} (h : Fours w) (hb : Bel w w') : Fours w' := fun k hk => by
  have := h k hk
  rw [hb.cell (World.block_lt_of_cell? _ _ this)]; exact this
theorem Fours.own {W w : World} {L : List Asn} (h : Fours W) (H : Own W w L) : Fours w := fun k hk => by
  have := h k hk
  rw [Below.cell H.below (World.block_lt_of_cell? _ _ this)]; exact this
theorem four_xor {r : Nat} (hr : r < 4294967296) : bits .xor .u32 ((r : Int) / 16) ((foursT.getD (r % 16) 0 : Nat) : Int) = ((fourP r : Nat) : Int) := by
  have h1 := foursT_lt ⟨r % 16, by omega⟩
  simp only at h1
  have e : (r : Int) / 16 = ((r / 16 : Nat) : Int) := by omega
  rw [e, xor_u32 _ _ (by omega) h1]; rfl
theorem ret_u32 {a b : Int} (h : b = a) : Ending.returned (.int .u32 a) = .returned (.int .u32 b) := by rw [h]
set_option maxRecDepth 100000 in
set_option maxHeartbeats 1000000 in
theorem eightC {w : World} (hF : Fours w) (r : Nat) (hr : r < 4294967296) : Calls Tryz.prog 229 #[.int .u32 (r : Int)] w fun e w' => e = .returned (.int .u32 (eightP r : Nat)) ∧ w = w' := by
  have ha := and15_u32 r hr
  have hx := four_xor hr
  have hc := hF (r % 16) (by omega)
  have hr1 := fourP_lt hr
  have he : fourP (fourP r) = eightP r := rfl
  rw [← he]
  clear he
  generalize fourP r = r1 at *
  generalize foursT.getD (r % 16) 0 = f1 at *
  have ha1 := and15_u32 r1 hr1
  have hx1 := four_xor hr1
  have hc1 := hF (r1 % 16) (by omega)
  generalize fourP r1 = r2 at *
  generalize foursT.getD (r1 % 16) 0 = f2 at *
  go_enter Tryz.func229, Tryz.ntmps229
  go_wp2
  go_ret
  exact ⟨rfl, rfl⟩
def crcStep (r : Nat) (c : UInt8) : Nat := eightP (r ^^^ c.toNat)
def crcP (s : List UInt8) : Nat := s.foldl crcStep 4294967295 ^^^ 4294967295
theorem crcStep_lt {r : Nat} {c : UInt8} (h : r < 4294967296) : crcStep r c < 4294967296 := eightP_lt (Nat.xor_lt_two_pow (n := 32) (by omega) (by have := c.toNat_lt; omega))
theorem crcFold_lt (s : List UInt8) : ∀ {r : Nat}, r < 4294967296 → s.foldl crcStep r < 4294967296 := by
  induction s with
  | nil => intro r h; exact h
  | cons c s ih => intro r h; exact ih (crcStep_lt h)
theorem crcP_lt (s : List UInt8) : crcP s < 4294967296 := Nat.xor_lt_two_pow (n := 32) (crcFold_lt s (by decide)) (by decide)
theorem crcFold_take {s : List UInt8} {i : Nat} {c : UInt8} (h : s[i]? = some c) (r : Nat) : (s.take (i + 1)).foldl crcStep r = crcStep ((s.take i).foldl crcStep r) c := by
  rw [List.take_add_one, h]; simp
set_option maxRecDepth 100000 in
set_option maxHeartbeats 1000000 in
theorem moreC {w : World} (hF : Fours w) {v : Value} {s : List UInt8} (hr : RdW w 1 v s.length (s.map byteV)) : Calls Tryz.prog 214 #[.int .u32 0, v] w fun e w' => e = .returned (.int .u32 (crcP s : Nat)) ∧ w = w' := by
  obtain ⟨hlen, A, c, rfl, hnc, hcm, hA⟩ := hr
  unfold maxLen at hcm
  have hin : bits .xor .u32 IntKind.u32.max 0 = 4294967295 := by decide +kernel
  have hfin : bits .xor .u32 IntKind.u32.max ((s.foldl crcStep 4294967295 : Nat) : Int) = ((crcP s : Nat) : Int) := by
    have h := xor_u32 4294967295 _ (by decide) (crcFold_lt s (r := 4294967295) (by decide))
    rw [Nat.xor_comm] at h
    exact h
  go_enter Tryz.func214, Tryz.ntmps214
  go_wp2
  go_loopw [5, 12] (fun vr vi wr => ∃ i : Nat, vr = .int .u32 ((s.take i).foldl crcStep 4294967295 : Nat) ∧ vi = .int .i64 (i : Int) ∧ i ≤ s.length ∧ wr = w) (fun _ vi _ => s.length - intN vi)
  case atStart => exact ⟨0, rfl, rfl, by omega, rfl⟩
  case round =>
    obtain ⟨i, rfl, rfl, hi, rfl⟩ := hrel
    by_cases hlt : i < s.length
    · obtain ⟨ad, rfl, hel⟩ := hA (by omega)
      obtain ⟨ch, hx⟩ : ∃ ch, s[i]? = some ch := ⟨_, List.getElem?_eq_getElem hlt⟩
      have hcell := hel i (byteV ch) (by simp [hx])
      change wr.cell? (ad.add i) = some (.int .u8 (ch.toNat : Int)) at hcell
      have hst := crcFold_take hx 4294967295
      have hr := crcFold_lt (s.take i) (r := 4294967295) (by decide)
      generalize (s.take i).foldl crcStep 4294967295 = r at *
      have hc8 := ch.toNat_lt
      have hxx := xor_u32 r ch.toNat hr (by omega)
      have hlt2 : r ^^^ ch.toNat < 4294967296 := Nat.xor_lt_two_pow (n := 32) (by omega) (by omega)
      clear hx hel hA
      go_wp2_with (go_at_call 229; refine (eightC hF _ hlt2).mono ?_; rintro e w1 ⟨rfl, rfl⟩)
      exact ⟨⟨i + 1, by rw [hst]; rfl, by simp, by omega, trivial⟩, by simp only [intN]; omega⟩
    · have : i = s.length := by omega
      subst this
      rw [List.take_length]
      go_wp2
      go_ret
      exact ⟨rfl, rfl⟩
set_option maxHeartbeats 1000000 in
theorem sumC {w : World} (hF : Fours w) {v : Value} {s : List UInt8} (hr : RdW w 1 v s.length (s.map byteV)) : Calls Tryz.prog 186 #[v] w fun e w' => e = .returned (.int .u32 (crcP s : Nat)) ∧ w = w' := by
  go_enter Tryz.func186, Tryz.ntmps186
  go_wp2_with (go_at_call 214; refine (moreC hF hr).mono ?_; rintro e w1 ⟨rfl, rfl⟩)
  go_ret
  exact ⟨rfl, rfl⟩
set_option maxHeartbeats 1000000 in
theorem crcCheckC {w : World} (hF : Fours w) {v : Value} {s : List UInt8} (hr : RdW w 1 v s.length (s.map byteV)) (n : Nat) : Calls Tryz.prog 246 #[v, .int .u32 (n : Int)] w fun e w' => e = .returned (.bool (((crcP s : Nat) : Int) == (n : Int))) ∧ w = w' := by
  go_enter Tryz.func246, Tryz.ntmps246
  go_wp2_with (go_at_call 186; refine (sumC hF hr).mono ?_; rintro e w1 ⟨rfl, rfl⟩)
  go_ret
  exact ⟨rfl, rfl⟩
end Sk
/- Package slices: Grow, Concat, Clone of bytes. -/
namespace Sk
open Go Go.RowKit Go.Proofs
attribute [local go_sem ↓] append_hide slice_hide
theorem slP_zero (A : Option Addr) (c size : Nat) : slP A c 0 size = A := by
  unfold slP
  split
  · rfl
  · rw [Nat.zero_mul]; cases A <;> simp [Addr.add]
theorem zero8 : (Value.int IntKind.u8 0).cells = #[.int .u8 0] := rfl
set_option maxRecDepth 100000 in
set_option maxHeartbeats 1000000 in
theorem growB {W w : World} {L : List Asn} (H : Own W w L) (n : Nat) (hn : n ≤ 1000000) : Calls Tryz.prog 215 #[.slice none 0 0, ei n] w (RetRow W 5 1 0 [] L) := by
  rcases Nat.eq_zero_or_pos n with rfl | h0
  · go_enter Tryz.func215, Tryz.ntmps215
    go_wp2
    go_ret
    exact ⟨none, 0, rfl, H.row_nil _ _⟩
  · obtain ⟨i, hi, hz, hs, hby⟩ := info_parts (P := Tryz.prog) (e := 5) (z := .int .u8 0) (size := 1) (bytes := 1) (by kernel_rfl)
    have hap := Lib.run_append_grow_zeros (P := Tryz.prog) w 24 3 24 5 i (.int .u8 0) .i64 .i64 Tryz.underlying24 Tryz.underlying3 hi hz none 0 0 [] (by simp [Builtin.firstCells]) n h0 (by omega) (by omega) (by omega) (by rw [hby]; omega) (by rw [hby]; exact growslice_fits (by omega) (by omega))
    have hg := grownCap_ge w (0 + n) 0 5
    have hm := grownCap_le_maxLen w (0 + n) 0 5 (by unfold maxLen; omega)
    simp only [Nat.zero_add] at hap hg hm
    generalize grownCap w n 0 5 = cp at *
    have hap' : (appendSem #[24, 3] 24 #[.slice none 0 0, ei n]).run Tryz.prog w = _ := hap
    have hs1 := fun wx => slice_0_eq (A := none) (n := 0) (c := 0) (kd' := .i64) byteT wx
    have hs2 := fun wx => slice_0_eq (A := some ⟨w.heap.size, 0, none⟩) (n := n) (c := cp) (kd' := .i64) byteT wx
    simp only [slP_zero] at hs1 hs2
    have H1 : Own W _ (rowA 5 1 (.slice (some ⟨w.heap.size, 0, none⟩) 0 cp) 0 [] :: L) := (H.drew.alloc (.cells ((#[] : Array Value) ++ Builtin.zeroCells (Value.int .u8 0).cells n ++ Builtin.zeroCells (Value.int .u8 0).cells (cp - n)) 5)).row_of_blk (n := 0) (cap := cp) (by omega) hm (by
      simp only [Array.size_append, size_zeroCells, zero8]
      simp
      omega) rfl
    have hpos : 0 < (n : Int) := by omega
    have HX := Lib.hid H1
    clear H1
    generalize (#[] : Array Value) ++ Builtin.zeroCells (Value.int .u8 0).cells n ++ Builtin.zeroCells (Value.int .u8 0).cells (cp - n) = cs at *
    go_enter Tryz.func215, Tryz.ntmps215
    go_wp2
    go_ret
    exact ⟨some ⟨w.heap.size, 0, none⟩, cp, rfl, HX.out⟩
set_option maxRecDepth 100000 in
set_option maxHeartbeats 1000000 in
theorem concat2 {W w : World} {L : List Asn} {g n m : Nat} {x y : Value} {xs ys : List UInt8} (H : Own W w (blk g (.cells #[x, y] 24) :: slA 1 x n (xs.map byteV) :: slA 1 y m (ys.map byteV) :: L)) (hn : n ≤ 500000) (hm : m ≤ 500000) :
    Calls Tryz.prog 187 #[.slice (some ⟨g, 0, none⟩) 2 2] w (RetRow W 5 1 (n + m) ((xs ++ ys).map byteV) (blk g (.cells #[x, y] 24) :: slA 1 x n (xs.map byteV) :: slA 1 y m (ys.map byteV) :: L)) := by
  have hx := H.front2.sl_rd
  have hy := H.front3.sl_rd
  obtain ⟨A1, c1, rfl, _⟩ := hx.form
  obtain ⟨A2, c2, rfl, _⟩ := hy.form
  have hc := H.cell
  have h0 : ¬ ((n : Int) + (m : Int) < 0) := by omega
  go_enter Tryz.func187, Tryz.ntmps187
  go_wp2
  refine wp_loop_rounds 3 ?_
  rw [rounds_succ]
  go_wp2
  rw [rounds_succ]
  go_wp2
  rw [rounds_succ]
  go_wp2_with fail
  have hg := growB H (n + m) (by omega)
  rw [Int.natCast_add] at hg
  refine hg.mono ?_
  rintro e w1 ⟨A3, c3, rfl, H3⟩
  have hc3 := H3.front2.cell
  obtain ⟨A4, c4, w2, hap1, H4⟩ := H3.append_eq (m := n) byteT 24 H3.front3.sl_rd (bytes_one xs) (by unfold maxLen; omega) (by omega)
  have hc4 := H4.front2.cell
  obtain ⟨A5, c5, w3, hap2, H5⟩ := H4.append_eq (m := m) byteT 24 H4.front4.sl_rd (bytes_one ys) (by unfold maxLen; omega) (by omega)
  simp only [Nat.zero_add, List.nil_append, ← List.map_append] at hap1 hap2 H4 H5
  clear hx hy H hc hg
  go_wp2_with fail
  refine wp_loop_rounds 3 ?_
  rw [rounds_succ]
  go_wp2
  rw [rounds_succ]
  go_wp2
  rw [rounds_succ]
  go_wp2_with fail
  go_ret
  exact ⟨A5, c5, rfl, H5⟩
set_option maxHeartbeats 1000000 in
set_option maxRecDepth 100000 in
theorem sclone {W w : World} {L : List Asn} (H : Own W w L) {x : Value} {n : Nat} {xs : List UInt8} (hr : RdW w 1 x n (xs.map byteV)) (hn : n ≤ 140737488355328) :
    Calls Tryz.prog 83 #[x] w (RetRow W 5 1 n (xs.map byteV) L) := by
  have hr0 := hr
  obtain ⟨hl, A, c, rfl, hc, hm, hA⟩ := hr
  have hq := fun w => Lib.run_eql_slice_nil (P := Tryz.prog) w 24 5 A n c 0 0 Tryz.underlying24
  rcases A with _ | ad
  · have hn0 : n = 0 := by
      rcases Nat.eq_zero_or_pos n with h | h
      · exact h
      · obtain ⟨_, h, _⟩ := hA h; cases h
    subst hn0
    have hx : xs.map byteV = [] := List.eq_nil_of_length_eq_zero (by simpa using hl)
    rw [hx]
    simp only [Option.isNone_none] at hq
    go_enter Tryz.func83, Tryz.ntmps83
    go_wp2
    go_ret
    exact ⟨none, 0, rfl, H.row_nil _ _⟩
  · simp only [Option.isNone_some] at hq
    have H1 : Own W _ (rowA 5 1 (.slice (some ⟨w.heap.size, 0, none⟩) 0 0) 0 [] :: L) := (H.alloc (.cells #[] 5)).row_of_blk (by omega) (by omega) rfl rfl
    obtain ⟨A', c', w', hap, H2⟩ := H1.append_eq (m := n) byteT 24 (hr0.alloc _) (bytes_one xs) (by unfold maxLen; omega) (by omega)
    simp only [Nat.zero_add, List.nil_append] at hap H2
    have HAP := Lib.hid hap
    clear hap
    go_enter Tryz.func83, Tryz.ntmps83
    go_wp2_with (rw [HAP.out])
    go_ret
    exact ⟨A', c', rfl, H2⟩
end Sk
/- Package frame: Make. -/
namespace Sk
open Go Go.RowKit Go.Proofs
attribute [local go_sem ↓] append_hide
/-- The cells of a block that is given up, as a slice of it. -/
theorem Own.sl_of_blk {W w : World} {L : List Asn} {g n c size : Nat} {cs : Array Value} {t : TypeId} {f : Nat × Nat} {xs : List Value} (H : Own W w (blk g (.cells cs t f) :: L)) (h1 : n ≤ c) (h2 : c ≤ maxLen) (h3 : xs.length = n * size) (h4 : cs.toList.take (n * size) = xs) :
    Own W w (slA size (.slice (some ⟨g, 0, none⟩) n c) n xs :: L) :=
  H.freeze.imp1 (B := slA size (.slice (some ⟨g, 0, none⟩) n c) n xs) fun _ r hr => ⟨h3, some ⟨g, 0, none⟩, c, rfl, h1, h2, fun _ => ⟨_, rfl, fun j u hu => by
    have hr' : r g = some (.cells cs t f) := hr
    rw [add_zero_block]
    refine ⟨cs, t, f, hr', rfl, ?_⟩
    rw [← h4, List.getElem?_take] at hu
    split at hu
    · simpa using hu
    · cases hu⟩⟩
/-- The bytes of a number, the highest one first. -/
def four (n : Nat) : List UInt8 := [UInt8.ofNat (n / 16777216), UInt8.ofNat (n / 65536), UInt8.ofNat (n / 256), UInt8.ofNat n]
theorem byteV_ofNat (n : Nat) : byteV (UInt8.ofNat n) = .int .u8 ((n : Int) % 256) := by simp [byteV]
theorem byteV_div (n k : Nat) : byteV (UInt8.ofNat (n / k)) = .int .u8 ((n : Int).fdiv k % 256) := by
  rw [byteV_ofNat, Int.fdiv_eq_ediv_of_nonneg _ (by omega)]; simp
theorem head_vals (n k : Nat) : #[Value.int .u8 ((n : Int).fdiv 16777216 % 256), .int .u8 ((n : Int).fdiv 65536 % 256), .int .u8 ((n : Int).fdiv 256 % 256), .int .u8 ((n : Int) % 256),
    .int .u8 ((k : Int).fdiv 16777216 % 256), .int .u8 ((k : Int).fdiv 65536 % 256), .int .u8 ((k : Int).fdiv 256 % 256), .int .u8 ((k : Int) % 256)] = ((four n ++ four k).map byteV).toArray := by
  have h (n : Nat) : (four n).map byteV = [.int .u8 ((n : Int).fdiv 16777216 % 256), .int .u8 ((n : Int).fdiv 65536 % 256), .int .u8 ((n : Int).fdiv 256 % 256), .int .u8 ((n : Int) % 256)] := by
    unfold four
    simp only [List.map_cons, List.map_nil]
    rw [byteV_div, byteV_div, byteV_div, byteV_ofNat]
    rfl
  rw [List.map_append, h, h]
  rfl
def makeP (s : List UInt8) : Int × List UInt8 := if s.length ≤ 65536 then (0, four s.length ++ four (crcP s) ++ s) else (11, [])
theorem makeP_yes {s : List UInt8} (h : s.length ≤ 65536) : makeP s = (0, four s.length ++ four (crcP s) ++ s) := if_pos h
theorem makeP_no {s : List UInt8} (h : ¬ s.length ≤ 65536) : makeP s = (11, []) := if_neg h
set_option maxRecDepth 100000 in
set_option maxHeartbeats 1000000 in
theorem makeC {W w : World} {L : List Asn} (hF : Fours W) {v : Value} {s : List UInt8} (H : Own W w (slA 1 v s.length (s.map byteV) :: L)) :
    Calls Tryz.prog 133 #[v] w (RetRec W L (makeP s)) := by
  have hr := H.sl_rd
  obtain ⟨_, A, c, rfl, hnc, hcm, _⟩ := hr
  unfold maxLen at hcm
  by_cases hl : s.length ≤ 65536
  · rw [makeP_yes hl]
    have q : ¬ (65536 < (s.length : Int)) := by omega
    have hsum := sumC ((hF.own H).bel ((Bel.refl w).alloc (.cells #[.int .u8 0, .int .u8 0, .int .u8 0, .int .u8 0, .int .u8 0, .int .u8 0, .int .u8 0, .int .u8 0] 230))) (H.sl_rd.alloc (.cells #[.int .u8 0, .int .u8 0, .int .u8 0, .int .u8 0, .int .u8 0, .int .u8 0, .int .u8 0, .int .u8 0] 230))
    have hw : IntKind.u32.wrap (s.length : Int) = (s.length : Int) := by simp [IntKind.wrap, IntKind.bits, IntKind.signed]; omega
    go_enter Tryz.func133, Tryz.ntmps133
    go_wp2_with fail
    refine hsum.mono ?_
    rintro e w1 ⟨rfl, rfl⟩
    clear hsum hw
    go_wp2_with fail
    refine wp_loop_rounds 5 ?_
    rw [rounds_succ]
    go_wp2_with fail
    refine (wpIn_wide (n := 0)).1 ?_
    refine region_fl [0, 1, 2, 3, 4, 5, 6, 7, 8, 9, 10, 11, 12, 13, 14, 15] [16, 17, 18] [17, 18] (fun _ => True) (fun _ => trivial) (by kernel_rfl) (by kernel_rfl) ?hS ?_
    case hS => go_simp
    apply hd_on (i := 0) rfl rfl
    · (intro w' hS; go_simp; try rfl)
    simp only [List.getElem_toArray, List.getElem_cons_succ, List.getElem_cons_zero, Act.put, List.setIfInBounds_toArray, List.set_cons_succ, List.set_cons_zero]
    apply hd_on (i := 1) rfl rfl
    · (intro w' hS; go_simp; try rfl)
    simp only [List.getElem_toArray, List.getElem_cons_succ, List.getElem_cons_zero, Act.put, List.setIfInBounds_toArray, List.set_cons_succ, List.set_cons_zero]
    apply hd_on (i := 2) rfl rfl
    · (intro w' hS; go_simp; try rfl)
    simp only [List.getElem_toArray, List.getElem_cons_succ, List.getElem_cons_zero, Act.put, List.setIfInBounds_toArray, List.set_cons_succ, List.set_cons_zero]
    apply hd_on (i := 3) rfl rfl
    · (intro w' hS; go_simp; try rfl)
    simp only [List.getElem_toArray, List.getElem_cons_succ, List.getElem_cons_zero, Act.put, List.setIfInBounds_toArray, List.set_cons_succ, List.set_cons_zero]
    apply hd_on (i := 4) rfl rfl
    · (intro w' hS; go_simp; try rfl)
    simp only [List.getElem_toArray, List.getElem_cons_succ, List.getElem_cons_zero, Act.put, List.setIfInBounds_toArray, List.set_cons_succ, List.set_cons_zero]
    apply hd_on (i := 5) rfl rfl
    · (intro w' hS; go_simp; try rfl)
    simp only [List.getElem_toArray, List.getElem_cons_succ, List.getElem_cons_zero, Act.put, List.setIfInBounds_toArray, List.set_cons_succ, List.set_cons_zero]
    apply hd_on (i := 6) rfl rfl
    · (intro w' hS; go_simp; try rfl)
    simp only [List.getElem_toArray, List.getElem_cons_succ, List.getElem_cons_zero, Act.put, List.setIfInBounds_toArray, List.set_cons_succ, List.set_cons_zero]
    apply hd_on (i := 7) rfl rfl
    · (intro w' hS; go_simp; try rfl)
    simp only [List.getElem_toArray, List.getElem_cons_succ, List.getElem_cons_zero, Act.put, List.setIfInBounds_toArray, List.set_cons_succ, List.set_cons_zero]
    apply hd_on (i := 8) rfl rfl
    · (intro w' hS; go_simp; try rfl)
    simp only [List.getElem_toArray, List.getElem_cons_succ, List.getElem_cons_zero, Act.put, List.setIfInBounds_toArray, List.set_cons_succ, List.set_cons_zero]
    apply hd_on (i := 9) rfl rfl
    · (intro w' hS; go_simp; try rfl)
    simp only [List.getElem_toArray, List.getElem_cons_succ, List.getElem_cons_zero, Act.put, List.setIfInBounds_toArray, List.set_cons_succ, List.set_cons_zero]
    apply hd_on (i := 10) rfl rfl
    · (intro w' hS; go_simp; try rfl)
    simp only [List.getElem_toArray, List.getElem_cons_succ, List.getElem_cons_zero, Act.put, List.setIfInBounds_toArray, List.set_cons_succ, List.set_cons_zero]
    apply hd_on (i := 11) rfl rfl
    · (intro w' hS; go_simp; try rfl)
    simp only [List.getElem_toArray, List.getElem_cons_succ, List.getElem_cons_zero, Act.put, List.setIfInBounds_toArray, List.set_cons_succ, List.set_cons_zero]
    apply hd_on (i := 12) rfl rfl
    · (intro w' hS; go_simp; try rfl)
    simp only [List.getElem_toArray, List.getElem_cons_succ, List.getElem_cons_zero, Act.put, List.setIfInBounds_toArray, List.set_cons_succ, List.set_cons_zero]
    apply hd_on (i := 13) rfl rfl
    · (intro w' hS; go_simp; try rfl)
    simp only [List.getElem_toArray, List.getElem_cons_succ, List.getElem_cons_zero, Act.put, List.setIfInBounds_toArray, List.set_cons_succ, List.set_cons_zero]
    apply hd_on (i := 14) rfl rfl
    · (intro w' hS; go_simp; try rfl)
    simp only [List.getElem_toArray, List.getElem_cons_succ, List.getElem_cons_zero, Act.put, List.setIfInBounds_toArray, List.set_cons_succ, List.set_cons_zero]
    apply hd_on (i := 15) rfl rfl
    · (intro w' hS; go_simp; try rfl)
    simp only [List.getElem_toArray, List.getElem_cons_succ, List.getElem_cons_zero, Act.put, List.setIfInBounds_toArray, List.set_cons_succ, List.set_cons_zero]
    refine hd_nil ?_
    refine tl_on (i := 16) (fun _ => trivial) (fun _ h => by cases h) rfl rfl (fun K hK => ?_)
    go_simp
    refine hK _ _ ⟨fun _ => ?_, ?_⟩
    · (trivial)
    clear hK K
    refine tl_on (i := 17) (fun _ => trivial) (fun _ h => by cases h) rfl rfl (fun K hK => ?_)
    go_simp
    refine hK _ _ ⟨fun h => by simp at h, ?_⟩
    clear hK K
    refine tl_on (i := 18) (fun _ => trivial) (fun _ h => by cases h) rfl rfl (fun K hK => ?_)
    go_simp
    refine hK _ _ ⟨fun h => by simp at h, ?_⟩
    clear hK K
    refine tl_nil ?_
    go_wp2_with fail
    rw [rounds_succ]
    go_wp2_with fail
    refine (wpIn_wide (n := 0)).1 ?_
    refine region_fl [0, 1, 2, 3, 4, 5, 6, 7, 8, 9, 10, 11, 12, 13, 14, 15] [16, 17, 18] [17, 18] (fun _ => True) (fun _ => trivial) (by kernel_rfl) (by kernel_rfl) ?hS ?_
    case hS => go_simp
    apply hd_on (i := 0) rfl rfl
    · (intro w' hS; go_simp; try rfl)
    simp only [List.getElem_toArray, List.getElem_cons_succ, List.getElem_cons_zero, Act.put, List.setIfInBounds_toArray, List.set_cons_succ, List.set_cons_zero]
    apply hd_on (i := 1) rfl rfl
    · (intro w' hS; go_simp; try rfl)
    simp only [List.getElem_toArray, List.getElem_cons_succ, List.getElem_cons_zero, Act.put, List.setIfInBounds_toArray, List.set_cons_succ, List.set_cons_zero]
    apply hd_on (i := 2) rfl rfl
    · (intro w' hS; go_simp; try rfl)
    simp only [List.getElem_toArray, List.getElem_cons_succ, List.getElem_cons_zero, Act.put, List.setIfInBounds_toArray, List.set_cons_succ, List.set_cons_zero]
    apply hd_on (i := 3) rfl rfl
    · (intro w' hS; go_simp; try rfl)
    simp only [List.getElem_toArray, List.getElem_cons_succ, List.getElem_cons_zero, Act.put, List.setIfInBounds_toArray, List.set_cons_succ, List.set_cons_zero]
    apply hd_on (i := 4) rfl rfl
    · (intro w' hS; go_simp; try rfl)
    simp only [List.getElem_toArray, List.getElem_cons_succ, List.getElem_cons_zero, Act.put, List.setIfInBounds_toArray, List.set_cons_succ, List.set_cons_zero]
    apply hd_on (i := 5) rfl rfl
    · (intro w' hS; go_simp; try rfl)
    simp only [List.getElem_toArray, List.getElem_cons_succ, List.getElem_cons_zero, Act.put, List.setIfInBounds_toArray, List.set_cons_succ, List.set_cons_zero]
    apply hd_on (i := 6) rfl rfl
    · (intro w' hS; go_simp; try rfl)
    simp only [List.getElem_toArray, List.getElem_cons_succ, List.getElem_cons_zero, Act.put, List.setIfInBounds_toArray, List.set_cons_succ, List.set_cons_zero]
    apply hd_on (i := 7) rfl rfl
    · (intro w' hS; go_simp; try rfl)
    simp only [List.getElem_toArray, List.getElem_cons_succ, List.getElem_cons_zero, Act.put, List.setIfInBounds_toArray, List.set_cons_succ, List.set_cons_zero]
    apply hd_on (i := 8) rfl rfl
    · (intro w' hS; go_simp; try rfl)
    simp only [List.getElem_toArray, List.getElem_cons_succ, List.getElem_cons_zero, Act.put, List.setIfInBounds_toArray, List.set_cons_succ, List.set_cons_zero]
    apply hd_on (i := 9) rfl rfl
    · (intro w' hS; go_simp; try rfl)
    simp only [List.getElem_toArray, List.getElem_cons_succ, List.getElem_cons_zero, Act.put, List.setIfInBounds_toArray, List.set_cons_succ, List.set_cons_zero]
    apply hd_on (i := 10) rfl rfl
    · (intro w' hS; go_simp; try rfl)
    simp only [List.getElem_toArray, List.getElem_cons_succ, List.getElem_cons_zero, Act.put, List.setIfInBounds_toArray, List.set_cons_succ, List.set_cons_zero]
    apply hd_on (i := 11) rfl rfl
    · (intro w' hS; go_simp; try rfl)
    simp only [List.getElem_toArray, List.getElem_cons_succ, List.getElem_cons_zero, Act.put, List.setIfInBounds_toArray, List.set_cons_succ, List.set_cons_zero]
    apply hd_on (i := 12) rfl rfl
    · (intro w' hS; go_simp; try rfl)
    simp only [List.getElem_toArray, List.getElem_cons_succ, List.getElem_cons_zero, Act.put, List.setIfInBounds_toArray, List.set_cons_succ, List.set_cons_zero]
    apply hd_on (i := 13) rfl rfl
    · (intro w' hS; go_simp; try rfl)
    simp only [List.getElem_toArray, List.getElem_cons_succ, List.getElem_cons_zero, Act.put, List.setIfInBounds_toArray, List.set_cons_succ, List.set_cons_zero]
    apply hd_on (i := 14) rfl rfl
    · (intro w' hS; go_simp; try rfl)
    simp only [List.getElem_toArray, List.getElem_cons_succ, List.getElem_cons_zero, Act.put, List.setIfInBounds_toArray, List.set_cons_succ, List.set_cons_zero]
    apply hd_on (i := 15) rfl rfl
    · (intro w' hS; go_simp; try rfl)
    simp only [List.getElem_toArray, List.getElem_cons_succ, List.getElem_cons_zero, Act.put, List.setIfInBounds_toArray, List.set_cons_succ, List.set_cons_zero]
    refine hd_nil ?_
    refine tl_on (i := 16) (fun _ => trivial) (fun _ h => by cases h) rfl rfl (fun K hK => ?_)
    go_simp
    refine hK _ _ ⟨fun _ => ?_, ?_⟩
    · (trivial)
    clear hK K
    refine tl_on (i := 17) (fun _ => trivial) (fun _ h => by cases h) rfl rfl (fun K hK => ?_)
    go_simp
    refine hK _ _ ⟨fun h => by simp at h, ?_⟩
    clear hK K
    refine tl_on (i := 18) (fun _ => trivial) (fun _ h => by cases h) rfl rfl (fun K hK => ?_)
    go_simp
    refine hK _ _ ⟨fun h => by simp at h, ?_⟩
    clear hK K
    refine tl_nil ?_
    go_wp2_with fail
    rw [rounds_succ]
    go_wp2_with fail
    refine (wpIn_wide (n := 0)).1 ?_
    refine region_fl [0, 1, 2, 3, 4, 5, 6, 7, 8, 9, 10, 11, 12, 13, 14, 15] [16, 17, 18] [17, 18] (fun _ => True) (fun _ => trivial) (by kernel_rfl) (by kernel_rfl) ?hS ?_
    case hS => go_simp
    apply hd_on (i := 0) rfl rfl
    · (intro w' hS; go_simp; try rfl)
    simp only [List.getElem_toArray, List.getElem_cons_succ, List.getElem_cons_zero, Act.put, List.setIfInBounds_toArray, List.set_cons_succ, List.set_cons_zero]
    apply hd_on (i := 1) rfl rfl
    · (intro w' hS; go_simp; try rfl)
    simp only [List.getElem_toArray, List.getElem_cons_succ, List.getElem_cons_zero, Act.put, List.setIfInBounds_toArray, List.set_cons_succ, List.set_cons_zero]
    apply hd_on (i := 2) rfl rfl
    · (intro w' hS; go_simp; try rfl)
    simp only [List.getElem_toArray, List.getElem_cons_succ, List.getElem_cons_zero, Act.put, List.setIfInBounds_toArray, List.set_cons_succ, List.set_cons_zero]
    apply hd_on (i := 3) rfl rfl
    · (intro w' hS; go_simp; try rfl)
    simp only [List.getElem_toArray, List.getElem_cons_succ, List.getElem_cons_zero, Act.put, List.setIfInBounds_toArray, List.set_cons_succ, List.set_cons_zero]
    apply hd_on (i := 4) rfl rfl
    · (intro w' hS; go_simp; try rfl)
    simp only [List.getElem_toArray, List.getElem_cons_succ, List.getElem_cons_zero, Act.put, List.setIfInBounds_toArray, List.set_cons_succ, List.set_cons_zero]
    apply hd_on (i := 5) rfl rfl
    · (intro w' hS; go_simp; try rfl)
    simp only [List.getElem_toArray, List.getElem_cons_succ, List.getElem_cons_zero, Act.put, List.setIfInBounds_toArray, List.set_cons_succ, List.set_cons_zero]
    apply hd_on (i := 6) rfl rfl
    · (intro w' hS; go_simp; try rfl)
    simp only [List.getElem_toArray, List.getElem_cons_succ, List.getElem_cons_zero, Act.put, List.setIfInBounds_toArray, List.set_cons_succ, List.set_cons_zero]
    apply hd_on (i := 7) rfl rfl
    · (intro w' hS; go_simp; try rfl)
    simp only [List.getElem_toArray, List.getElem_cons_succ, List.getElem_cons_zero, Act.put, List.setIfInBounds_toArray, List.set_cons_succ, List.set_cons_zero]
    apply hd_on (i := 8) rfl rfl
    · (intro w' hS; go_simp; try rfl)
    simp only [List.getElem_toArray, List.getElem_cons_succ, List.getElem_cons_zero, Act.put, List.setIfInBounds_toArray, List.set_cons_succ, List.set_cons_zero]
    apply hd_on (i := 9) rfl rfl
    · (intro w' hS; go_simp; try rfl)
    simp only [List.getElem_toArray, List.getElem_cons_succ, List.getElem_cons_zero, Act.put, List.setIfInBounds_toArray, List.set_cons_succ, List.set_cons_zero]
    apply hd_on (i := 10) rfl rfl
    · (intro w' hS; go_simp; try rfl)
    simp only [List.getElem_toArray, List.getElem_cons_succ, List.getElem_cons_zero, Act.put, List.setIfInBounds_toArray, List.set_cons_succ, List.set_cons_zero]
    apply hd_on (i := 11) rfl rfl
    · (intro w' hS; go_simp; try rfl)
    simp only [List.getElem_toArray, List.getElem_cons_succ, List.getElem_cons_zero, Act.put, List.setIfInBounds_toArray, List.set_cons_succ, List.set_cons_zero]
    apply hd_on (i := 12) rfl rfl
    · (intro w' hS; go_simp; try rfl)
    simp only [List.getElem_toArray, List.getElem_cons_succ, List.getElem_cons_zero, Act.put, List.setIfInBounds_toArray, List.set_cons_succ, List.set_cons_zero]
    apply hd_on (i := 13) rfl rfl
    · (intro w' hS; go_simp; try rfl)
    simp only [List.getElem_toArray, List.getElem_cons_succ, List.getElem_cons_zero, Act.put, List.setIfInBounds_toArray, List.set_cons_succ, List.set_cons_zero]
    apply hd_on (i := 14) rfl rfl
    · (intro w' hS; go_simp; try rfl)
    simp only [List.getElem_toArray, List.getElem_cons_succ, List.getElem_cons_zero, Act.put, List.setIfInBounds_toArray, List.set_cons_succ, List.set_cons_zero]
    apply hd_on (i := 15) rfl rfl
    · (intro w' hS; go_simp; try rfl)
    simp only [List.getElem_toArray, List.getElem_cons_succ, List.getElem_cons_zero, Act.put, List.setIfInBounds_toArray, List.set_cons_succ, List.set_cons_zero]
    refine hd_nil ?_
    refine tl_on (i := 16) (fun _ => trivial) (fun _ h => by cases h) rfl rfl (fun K hK => ?_)
    go_simp
    refine hK _ _ ⟨fun _ => ?_, ?_⟩
    · (trivial)
    clear hK K
    refine tl_on (i := 17) (fun _ => trivial) (fun _ h => by cases h) rfl rfl (fun K hK => ?_)
    go_simp
    refine hK _ _ ⟨fun h => by simp at h, ?_⟩
    clear hK K
    refine tl_on (i := 18) (fun _ => trivial) (fun _ h => by cases h) rfl rfl (fun K hK => ?_)
    go_simp
    refine hK _ _ ⟨fun h => by simp at h, ?_⟩
    clear hK K
    refine tl_nil ?_
    go_wp2_with fail
    rw [rounds_succ]
    go_wp2_with fail
    refine (wpIn_wide (n := 0)).1 ?_
    refine region_fl [0, 1, 2, 3, 4, 5, 6, 7, 8, 9, 10, 11, 12, 13, 14, 15] [16, 17, 18] [17, 18] (fun _ => True) (fun _ => trivial) (by kernel_rfl) (by kernel_rfl) ?hS ?_
    case hS => go_simp
    apply hd_on (i := 0) rfl rfl
    · (intro w' hS; go_simp; try rfl)
    simp only [List.getElem_toArray, List.getElem_cons_succ, List.getElem_cons_zero, Act.put, List.setIfInBounds_toArray, List.set_cons_succ, List.set_cons_zero]
    apply hd_on (i := 1) rfl rfl
    · (intro w' hS; go_simp; try rfl)
    simp only [List.getElem_toArray, List.getElem_cons_succ, List.getElem_cons_zero, Act.put, List.setIfInBounds_toArray, List.set_cons_succ, List.set_cons_zero]
    apply hd_on (i := 2) rfl rfl
    · (intro w' hS; go_simp; try rfl)
    simp only [List.getElem_toArray, List.getElem_cons_succ, List.getElem_cons_zero, Act.put, List.setIfInBounds_toArray, List.set_cons_succ, List.set_cons_zero]
    apply hd_on (i := 3) rfl rfl
    · (intro w' hS; go_simp; try rfl)
    simp only [List.getElem_toArray, List.getElem_cons_succ, List.getElem_cons_zero, Act.put, List.setIfInBounds_toArray, List.set_cons_succ, List.set_cons_zero]
    apply hd_on (i := 4) rfl rfl
    · (intro w' hS; go_simp; try rfl)
    simp only [List.getElem_toArray, List.getElem_cons_succ, List.getElem_cons_zero, Act.put, List.setIfInBounds_toArray, List.set_cons_succ, List.set_cons_zero]
    apply hd_on (i := 5) rfl rfl
    · (intro w' hS; go_simp; try rfl)
    simp only [List.getElem_toArray, List.getElem_cons_succ, List.getElem_cons_zero, Act.put, List.setIfInBounds_toArray, List.set_cons_succ, List.set_cons_zero]
    apply hd_on (i := 6) rfl rfl
    · (intro w' hS; go_simp; try rfl)
    simp only [List.getElem_toArray, List.getElem_cons_succ, List.getElem_cons_zero, Act.put, List.setIfInBounds_toArray, List.set_cons_succ, List.set_cons_zero]
    apply hd_on (i := 7) rfl rfl
    · (intro w' hS; go_simp; try rfl)
    simp only [List.getElem_toArray, List.getElem_cons_succ, List.getElem_cons_zero, Act.put, List.setIfInBounds_toArray, List.set_cons_succ, List.set_cons_zero]
    apply hd_on (i := 8) rfl rfl
    · (intro w' hS; go_simp; try rfl)
    simp only [List.getElem_toArray, List.getElem_cons_succ, List.getElem_cons_zero, Act.put, List.setIfInBounds_toArray, List.set_cons_succ, List.set_cons_zero]
    apply hd_on (i := 9) rfl rfl
    · (intro w' hS; go_simp; try rfl)
    simp only [List.getElem_toArray, List.getElem_cons_succ, List.getElem_cons_zero, Act.put, List.setIfInBounds_toArray, List.set_cons_succ, List.set_cons_zero]
    apply hd_on (i := 10) rfl rfl
    · (intro w' hS; go_simp; try rfl)
    simp only [List.getElem_toArray, List.getElem_cons_succ, List.getElem_cons_zero, Act.put, List.setIfInBounds_toArray, List.set_cons_succ, List.set_cons_zero]
    apply hd_on (i := 11) rfl rfl
    · (intro w' hS; go_simp; try rfl)
    simp only [List.getElem_toArray, List.getElem_cons_succ, List.getElem_cons_zero, Act.put, List.setIfInBounds_toArray, List.set_cons_succ, List.set_cons_zero]
    apply hd_on (i := 12) rfl rfl
    · (intro w' hS; go_simp; try rfl)
    simp only [List.getElem_toArray, List.getElem_cons_succ, List.getElem_cons_zero, Act.put, List.setIfInBounds_toArray, List.set_cons_succ, List.set_cons_zero]
    apply hd_on (i := 13) rfl rfl
    · (intro w' hS; go_simp; try rfl)
    simp only [List.getElem_toArray, List.getElem_cons_succ, List.getElem_cons_zero, Act.put, List.setIfInBounds_toArray, List.set_cons_succ, List.set_cons_zero]
    apply hd_on (i := 14) rfl rfl
    · (intro w' hS; go_simp; try rfl)
    simp only [List.getElem_toArray, List.getElem_cons_succ, List.getElem_cons_zero, Act.put, List.setIfInBounds_toArray, List.set_cons_succ, List.set_cons_zero]
    apply hd_on (i := 15) rfl rfl
    · (intro w' hS; go_simp; try rfl)
    simp only [List.getElem_toArray, List.getElem_cons_succ, List.getElem_cons_zero, Act.put, List.setIfInBounds_toArray, List.set_cons_succ, List.set_cons_zero]
    refine hd_nil ?_
    refine tl_on (i := 16) (fun _ => trivial) (fun _ h => by cases h) rfl rfl (fun K hK => ?_)
    go_simp
    refine hK _ _ ⟨fun _ => ?_, ?_⟩
    · (trivial)
    clear hK K
    refine tl_on (i := 17) (fun _ => trivial) (fun _ h => by cases h) rfl rfl (fun K hK => ?_)
    go_simp
    refine hK _ _ ⟨fun h => by simp at h, ?_⟩
    clear hK K
    refine tl_on (i := 18) (fun _ => trivial) (fun _ h => by cases h) rfl rfl (fun K hK => ?_)
    go_simp
    refine hK _ _ ⟨fun h => by simp at h, ?_⟩
    clear hK K
    refine tl_nil ?_
    go_wp2_with fail
    rw [rounds_succ]
    go_wp2_with fail
    rw [head_vals]
    have H1 := (((((H.alloc (.cells ((four s.length ++ four (crcP s)).map byteV).toArray 230)).sl_of_blk (n := 8) (c := 8) (size := 1) (xs := (four s.length ++ four (crcP s)).map byteV) (by decide) (by decide) (by simp [four]) (by simp [four])).alloc (.cells #[.slice (some ⟨w.heap.size, 0, none⟩) 8 8, .slice A s.length c] 24)).drew.drew).drew).drew
    rw [World.size_alloc] at H1
    refine (concat2 H1 (by decide) (by omega)).mono ?_
    rintro e w2 ⟨A', c', rfl, H2⟩
    go_wp2_with fail
    refine bodyPost_ret (v := .tuple #[.slice A' (8 + s.length) c', ei 0]) (by simp [results, Tryz.results133, go_sem]) rfl ?_
    refine ⟨_, rfl, ?_⟩
    have hlen : (four s.length ++ four (crcP s) ++ s).length = 8 + s.length := by simp [four]; omega
    rw [hlen]
    exact H2.drop2.drop2.drop2
  · rw [makeP_no hl]
    have q : 65536 < (s.length : Int) := by omega
    go_enter Tryz.func133, Tryz.ntmps133
    go_wp2_with fail
    refine bodyPost_ret (v := .tuple #[.slice none 0 0, ei 11]) (by simp [results, Tryz.results133, go_sem]) rfl ?_
    exact ⟨_, rfl, H.drop.row_nil _ _⟩
end Sk
/- Package frame: Next. -/
namespace Sk
open Go Go.RowKit Go.Proofs
attribute [local go_sem ↓] slice_hide
def num4 (s : List UInt8) : Nat := (s.take 4).foldl (fun n c => n * 256 + c.toNat) 0
def n4 (n : Nat) (c : UInt8) : Nat := n * 256 + c.toNat
theorem n4_take {s : List UInt8} {i : Nat} {c : UInt8} (h : s[i]? = some c) : (s.take (i + 1)).foldl n4 0 = n4 ((s.take i).foldl n4 0) c := by
  rw [List.take_add_one, h]; simp
theorem n4_lt (s : List UInt8) : ∀ r : Nat, s.foldl n4 r < (r + 1) * 256 ^ s.length := by
  induction s with
  | nil => intro r; simp
  | cons c s ih =>
    intro r
    have h1 := ih (n4 r c)
    have hc := c.toNat_lt
    have h2 : (n4 r c + 1) * 256 ^ s.length ≤ (256 * (r + 1)) * 256 ^ s.length := Nat.mul_le_mul_right _ (by unfold n4; omega)
    have h3 : (256 * (r + 1)) * 256 ^ s.length = (r + 1) * 256 ^ (s.length + 1) := by rw [Nat.pow_succ, Nat.mul_comm 256 (r + 1), Nat.mul_assoc, Nat.mul_comm 256]
    simp only [List.foldl_cons, List.length_cons]
    omega
theorem num4_lt (s : List UInt8) : num4 s < 4294967296 := by
  have h := n4_lt (s.take 4) 0
  have h2 : 256 ^ (s.take 4).length ≤ 256 ^ 4 := Nat.pow_le_pow_right (by omega) (by rw [List.length_take]; omega)
  have e : num4 s = (s.take 4).foldl n4 0 := rfl
  rw [e]; omega
theorem or8_u32 {n c : Nat} (hn : n < 16777216) (hc : c < 256) : bits .or .u32 (IntKind.u32.wrap ((n : Int) * 256)) (c : Int) = ((n * 256 + c : Nat) : Int) := by
  have hw : IntKind.u32.wrap ((n : Int) * 256) = ((n * 256 : Nat) : Int) := by simp [IntKind.wrap, IntKind.bits, IntKind.signed]; omega
  have h1 : (BitVec.ofInt 32 ((n * 256 : Nat) : Int)).toNat = n * 256 := by
    rw [BitVec.ofInt_natCast, BitVec.toNat_ofNat]; exact Nat.mod_eq_of_lt (by omega)
  have h2 : (BitVec.ofInt 32 (c : Int)).toNat = c := by
    rw [BitVec.ofInt_natCast, BitVec.toNat_ofNat]; exact Nat.mod_eq_of_lt (by omega)
  rw [hw]
  show IntKind.u32.wrap ((BitVec.ofInt 32 ((n * 256 : Nat) : Int) ||| BitVec.ofInt 32 (c : Int)).toNat : Int) = _
  rw [BitVec.toNat_or, h1, h2]
  have h := Nat.two_pow_add_eq_or_of_lt (i := 8) (b := c) (by omega) n
  rw [Nat.mul_comm n 256, show (256 : Nat) = 2 ^ 8 from rfl, ← h]
  simp [IntKind.wrap, IntKind.bits, IntKind.signed]
  omega
theorem or8_u32' {n c : Nat} (hn : n < 16777216) (hc : c < 256) : bits .or .u32 ((n : Int) * 256) (c : Int) = ((n * 256 + c : Nat) : Int) := by
  have hw : IntKind.u32.wrap ((n : Int) * 256) = (n : Int) * 256 := by simp [IntKind.wrap, IntKind.bits, IntKind.signed]; omega
  have h := or8_u32 hn hc
  rwa [hw] at h
set_option maxRecDepth 100000 in
set_option maxHeartbeats 1000000 in
theorem next1C {w : World} {bx : Nat} {v : Value} {s : List UInt8} (hr : RdW w 1 v s.length (s.map byteV)) (hb : w.cell? ⟨bx, 0, none⟩ = some v) (i : Nat) (hi : i + 4 ≤ s.length) :
    Calls Tryz.prog 245 #[ei i, ptr bx] w fun e w' => e = .returned (.int .u32 (num4 (s.drop i) : Nat)) ∧ w = w' := by
  have hrw := hr.form
  obtain ⟨A, c, rfl, hnc, hcm, _⟩ := hrw
  unfold maxLen at hcm
  have hw := hr.window (l := i) (h := i + 4) (by omega) (by omega)
  rw [Nat.add_sub_cancel_left, Nat.mul_one, Nat.mul_one, ← List.map_drop, ← List.map_take] at hw
  have hsl : ∀ w, (sliceSem 24 (.slice A s.length c) (some (.int .i64 (i : Int))) (some (.int .i64 ((i : Int) + 4))) none).run Tryz.prog w = .ok (.slice (slP A c i 1) 4 (c - i)) w := by
    intro w
    have h := slice_lh_eq (A := A) (n := s.length) (c := c) (l := i) (h := i + 4) (kd := .i64) (kd' := .i64) byteT (by omega) (by omega) w
    rw [Nat.add_sub_cancel_left] at h
    exact h
  have hnum : num4 (s.drop i) = ((s.drop i).take 4).foldl n4 0 := rfl
  rw [hnum]
  have hl4 : ((s.drop i).take 4).length = 4 := by rw [List.length_take, List.length_drop]; omega
  generalize (s.drop i).take 4 = t at *
  obtain ⟨_, A2, c2, he, _, _, hA⟩ := hw
  cases he
  obtain ⟨ad, hadd, hel⟩ := hA (by decide)
  rw [hadd] at hsl
  clear hnum hr hA hadd
  go_enter Tryz.func245, Tryz.ntmps245
  go_wp2
  go_loopw [4, 13] (fun vn vi wr => ∃ j : Nat, vn = .int .u32 ((t.take j).foldl n4 0 : Nat) ∧ vi = .int .i64 (j : Int) ∧ j ≤ 4 ∧ wr = w) (fun _ vi _ => 4 - intN vi)
  case atStart => exact ⟨0, rfl, rfl, by omega, rfl⟩
  case round =>
    obtain ⟨j, rfl, rfl, hj, rfl⟩ := hrel
    by_cases hlt : j < 4
    · obtain ⟨ch, hx⟩ : ∃ ch, t[j]? = some ch := ⟨_, List.getElem?_eq_getElem (by omega)⟩
      have hcell := hel j (byteV ch) (by simp [hx])
      change wr.cell? (ad.add j) = some (.int .u8 (ch.toNat : Int)) at hcell
      have hst := n4_take hx
      have hn3 : (t.take j).foldl n4 0 < 16777216 := by
        have h := n4_lt (t.take j) 0
        have h2 : 256 ^ (t.take j).length ≤ 256 ^ 3 := Nat.pow_le_pow_right (by omega) (by rw [List.length_take]; omega)
        omega
      have hor := or8_u32' hn3 ch.toNat_lt
      generalize (t.take j).foldl n4 0 = r at *
      have hc8 := ch.toNat_lt
      clear hx hel
      go_wp2
      exact ⟨⟨j + 1, by rw [hst]; simp [n4], by simp, by omega, trivial⟩, by simp only [intN]; omega⟩
    · have : j = 4 := by omega
      subst this
      rw [← hl4, List.take_length]
      go_wp2
      go_ret
      exact ⟨rfl, rfl⟩
/-- The frame at a place: its content, and where the next one begins. -/
def nextP (s : List UInt8) (k : Nat) : Option (List UInt8 × Nat) :=
  if s.length - k < 8 then none
  else if num4 (s.drop k) > 65536 ∨ num4 (s.drop k) > s.length - k - 8 then none
  else if crcP ((s.drop (k + 8)).take (num4 (s.drop k))) = num4 (s.drop (k + 4)) then some ((s.drop (k + 8)).take (num4 (s.drop k)), k + 8 + num4 (s.drop k)) else none
def NextPost (W : World) (L : List Asn) (k : Nat) (o : Option (List UInt8 × Nat)) (e : Ending) (w : World) : Prop :=
  match o with
  | some y => ∃ v, e = .returned (.tuple #[.agg #[ei k, v], ei y.2, ei 0]) ∧ Own W w (rowA 5 1 v y.1.length (y.1.map byteV) :: L)
  | none => ∃ er, er ≠ 0 ∧ e = .returned (.tuple #[.agg #[ei 0, .slice none 0 0], ei 0, ei er]) ∧ Own W w L
set_option maxRecDepth 100000 in
set_option maxHeartbeats 1000000 in
theorem nextC {W w : World} {L : List Asn} (hF : Fours W) {v : Value} {s : List UInt8} {X : Asn} (hX : ∀ {w : World} {L : List Asn}, Own W w (X :: L) → RdW w 1 v s.length (s.map byteV)) (H : Own W w (X :: L)) (k : Nat) (hk : k ≤ s.length) :
    Calls Tryz.prog 232 #[v, ei k] w (NextPost W (X :: L) k (nextP s k)) := by
  obtain ⟨A, c, rfl, hnc, hcm, _⟩ := (hX H).form
  unfold maxLen at hcm
  have q0 : ¬ ((k : Int) < 0) := by omega
  have q1 : ¬ ((s.length : Int) < (k : Int)) := by omega
  by_cases h8 : s.length - k < 8
  · have hnx : nextP s k = none := by unfold nextP; rw [if_pos h8]
    rw [hnx]
    have H1 := (H.alloc (.cells #[.slice A s.length c] 24)).alloc (.cells #[ei 0, .slice none 0 0] 247)
    rw [World.size_alloc] at H1
    have hc1 := H1.cell
    have hf1 := H1.free
    have hb1 := H1.front2.cell
    have H2 := (H1.set 0 (ei 0)).set 1 (.slice none 0 0)
    simp only [List.setIfInBounds_toArray, List.set_cons_succ, List.set_cons_zero] at H2
    have hc2 := H2.cell
    by_cases hkl : k = s.length
    · have q2 : ((k : Int) == (s.length : Int)) = true := by simp [hkl]
      go_enter Tryz.func232, Tryz.ntmps232
      go_wp2
      refine bodyPost_ret (v := .tuple #[.agg #[ei 0, .slice none 0 0], ei 0, ei 5]) (by simp [results, Tryz.results232, go_sem]) rfl ?_
      exact ⟨5, by decide, rfl, H1.drop.drop⟩
    · have q2 : ((k : Int) == (s.length : Int)) = false := by simp; omega
      have q3 : (s.length : Int) - (k : Int) < 8 := by omega
      go_enter Tryz.func232, Tryz.ntmps232
      go_wp2
      refine bodyPost_ret (v := .tuple #[.agg #[ei 0, .slice none 0 0], ei 0, ei 10]) (by simp [results, Tryz.results232, go_sem]) rfl ?_
      exact ⟨10, by decide, rfl, H1.drop.drop⟩
  · have q2 : ((k : Int) == (s.length : Int)) = false := by simp; omega
    have q3 : ¬ ((s.length : Int) - (k : Int) < 8) := by omega
    have H1 := (H.alloc (.cells #[.slice A s.length c] 24)).alloc (.cells #[ei 0, .slice none 0 0] 247)
    rw [World.size_alloc] at H1
    have hc1 := H1.cell
    have hf1 := H1.free
    have hb1 := H1.front2.cell
    have hmf : ∀ (fn : Fn) (first cap : Array Value) (w : World), (Instr.makeFunc fn first cap).run Tryz.prog w = .ok (.func fn first cap) w := fun _ _ _ _ => rfl
    have hn1 := next1C (hX H1.front3) (hb1 0) k (by omega)
    have hnlt := num4_lt (s.drop k)
    by_cases hbad : num4 (s.drop k) > 65536 ∨ num4 (s.drop k) > s.length - k - 8
    · have hnx : nextP s k = none := by unfold nextP; rw [if_neg h8, if_pos hbad]
      rw [hnx]
      generalize num4 (s.drop k) = n at *
      by_cases hb1 : 65536 < n
      · have q4 : 65536 < (n : Int) := by omega
        go_enter Tryz.func232, Tryz.ntmps232
        go_wp2_with fail
        refine hn1.mono ?_
        rintro e w1 ⟨rfl, rfl⟩
        go_wp2_with fail
        refine bodyPost_ret (v := .tuple #[.agg #[ei 0, .slice none 0 0], ei 0, ei 10]) (by simp [results, Tryz.results232, go_sem]) rfl ?_
        exact ⟨10, by decide, rfl, H1.drop.drop⟩
      · have q4 : ¬ 65536 < (n : Int) := by omega
        have q5 : (s.length : Int) - (k : Int) - 8 < (n : Int) := by omega
        go_enter Tryz.func232, Tryz.ntmps232
        go_wp2_with fail
        refine hn1.mono ?_
        rintro e w1 ⟨rfl, rfl⟩
        go_wp2_with fail
        refine bodyPost_ret (v := .tuple #[.agg #[ei 0, .slice none 0 0], ei 0, ei 10]) (by simp [results, Tryz.results232, go_sem]) rfl ?_
        exact ⟨10, by decide, rfl, H1.drop.drop⟩
    · have hn2 : Calls Tryz.prog 245 #[ei ((k : Int) + 4), ptr w.heap.size] _ _ := next1C (hX H1.front3) (hb1 0) (k + 4) (by omega)
      have hct := (hX H1.front3).window (l := k + 8) (h := k + 8 + num4 (s.drop k)) (by omega) (by omega)
      rw [Nat.add_sub_cancel_left, Nat.mul_one, Nat.mul_one, ← List.map_drop, ← List.map_take] at hct
      have hF1 := hF.own H1
      have hctl : ((s.drop (k + 8)).take (num4 (s.drop k))).length = num4 (s.drop k) := by rw [List.length_take, List.length_drop]; omega
      have hsl : ∀ w, (sliceSem 24 (.slice A s.length c) (some (.int .i64 ((k : Int) + 8))) (some (.int .i64 ((k : Int) + 8 + (num4 (s.drop k) : Int)))) none).run Tryz.prog w = .ok (.slice (slP A c (k + 8) 1) (num4 (s.drop k)) (c - (k + 8))) w := by
        intro w
        have h := slice_lh_eq (A := A) (n := s.length) (c := c) (l := k + 8) (h := k + 8 + num4 (s.drop k)) (kd := .i64) (kd' := .i64) byteT (by omega) (by omega) w
        rw [Nat.add_sub_cancel_left] at h
        exact h
      have hnx : nextP s k = if crcP ((s.drop (k + 8)).take (num4 (s.drop k))) = num4 (s.drop (k + 4)) then some ((s.drop (k + 8)).take (num4 (s.drop k)), k + 8 + num4 (s.drop k)) else none := by unfold nextP; rw [if_neg h8, if_neg hbad]
      have hlt2 := num4_lt (s.drop (k + 4))
      generalize num4 (s.drop (k + 4)) = m at *
      generalize num4 (s.drop k) = n at *
      generalize (s.drop (k + 8)).take n = ct at *
      subst hctl
      have q4 : ¬ 65536 < (ct.length : Int) := by omega
      have q5 : ¬ (s.length : Int) - (k : Int) - 8 < (ct.length : Int) := by omega
      have q6 : (k : Int) + 8 + (ct.length : Int) ≤ 9223372036854775807 := by omega
      have hck := crcCheckC hF1 hct m
      have hcl := sclone H1 hct (by omega)
      by_cases hcrc : crcP ct = m
      · rw [if_pos hcrc] at hnx
        rw [hnx]
        have q7 : (((crcP ct : Nat) : Int) == (m : Int)) = true := by simp [hcrc]
        rw [q7] at hck
        clear hcrc hnx q7
        go_enter Tryz.func232, Tryz.ntmps232
        go_wp2_with fail
        refine hn1.mono ?_
        rintro e w1 ⟨rfl, rfl⟩
        go_wp2_with fail
        refine hn2.mono ?_
        rintro e w1 ⟨rfl, rfl⟩
        go_wp2_with fail
        refine hck.mono ?_
        rintro e w1 ⟨rfl, rfl⟩
        go_wp2_with fail
        refine hcl.mono ?_
        rintro e w2 ⟨A2, c2, rfl, H3⟩
        have hc3 := H3.front2.cell
        have hf3 := H3.front2.free
        have H4 := (H3.front2.set 0 (ei k)).set 1 (.slice A2 ct.length c2)
        simp only [List.setIfInBounds_toArray, List.set_cons_succ, List.set_cons_zero] at H4
        have hc4 := H4.cell
        go_wp2_with fail
        refine bodyPost_ret (v := .tuple #[.agg #[ei k, .slice A2 ct.length c2], ei ((k + 8 + ct.length : Nat) : Int), ei 0]) (by simp [results, Tryz.results232, go_sem, hc4]) rfl ?_
        exact ⟨_, rfl, H4.drop.drop2⟩
      · rw [if_neg hcrc] at hnx
        rw [hnx]
        have q7 : (((crcP ct : Nat) : Int) == (m : Int)) = false := by simp; omega
        rw [q7] at hck
        clear hcrc hnx q7
        go_enter Tryz.func232, Tryz.ntmps232
        go_wp2_with fail
        refine hn1.mono ?_
        rintro e w1 ⟨rfl, rfl⟩
        go_wp2_with fail
        refine hn2.mono ?_
        rintro e w1 ⟨rfl, rfl⟩
        go_wp2_with fail
        refine hck.mono ?_
        rintro e w1 ⟨rfl, rfl⟩
        go_wp2_with fail
        refine bodyPost_ret (v := .tuple #[.agg #[ei 0, .slice none 0 0], ei 0, ei 13]) (by simp [results, Tryz.results232, go_sem]) rfl ?_
        exact ⟨13, by decide, rfl, H1.drop.drop⟩
end Sk
