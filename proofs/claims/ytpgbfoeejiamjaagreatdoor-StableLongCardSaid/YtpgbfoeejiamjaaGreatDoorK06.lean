/- slices.Sort of ints, and the sorted keys. -/
import Derived.Test.YtpgbfoeejiamjaaGreatDoorK05
import Derived.Test.YtpgbfoeejiamjaaGreatDoorProg
import Derived.Test.YtpgbfoeejiamjaaGreatDoorK02
import Derived.Test.YtpgbfoeejiamjaaGreatDoorK03
import Derived.RegionTactic
import Derived.ChangeAlike
set_option linter.all false
set_option linter.unusedVariables false
set_option linter.unusedSimpArgs false
set_option linter.unusedSectionVars false
namespace Sk
open Go Go.RowKit Go.Proofs Go.Sort
theorem putCells_at (enc : Int → Value) (zs : List Int) (cur : Array Value) (h : zs.length ≤ cur.size) : (putCells enc 0 zs.toArray cur).toList.take zs.length = zs.map enc := by
  apply List.ext_getElem?
  intro i
  rw [List.getElem?_take]
  by_cases hi : i < zs.length
  · have hc : i < cur.size := by omega
    simp [hi, putCells, hc]
  · simp [hi]
theorem own_grow {W w : World} {L : List Asn} (H : Own W w L) (os : Array Obj) : Own W (grow w os) L :=
  H.grown ⟨rfl, rfl, rfl, by simp, fun k hk => heap_grow_old w os hk⟩
theorem own_putRow {W w : World} {L : List Asn} {g : Nat} {cur : Array Value} {e : TypeId} {fr : Nat × Nat} (H : Own W w (blk g (.cells cur e fr) :: L)) (enc : Int → Value) (n : Nat) (d : Array Int) : Own W (putRow enc (Sort.ahead w n) g 0 d) (blk g (.cells (putCells enc 0 d cur) e fr) :: L) := by
  refine H.upd ⟨rfl, rfl, rfl, by simp [putRow, mapBlock, Sort.ahead], fun k hk hne => ?_⟩ ?_
  · have : ¬ g = k := fun h => hne (by rw [h])
    simp [putRow, mapBlock, Sort.ahead, Array.getElem?_modify, this]
  · have := H.has
    simp [putRow, mapBlock, Sort.ahead, Array.getElem?_modify, this, onCells]
set_option maxHeartbeats 1000000 in
theorem sortI {W w : World} {L : List Asn} {v : Value} {ks : List Int} (H : Own W w (rowA 3 1 v ks.length (ks.map ik) :: L)) (hl : ks.length ≤ 4096) :
    Calls Tryz.prog 208 #[v] w fun e w' => e = .returned (.tuple #[]) ∧ Own W w' (rowA 3 1 v ks.length ((ks.mergeSort fun x y => decide (x ≤ y)).map ik) :: L) := by
  rcases H.row_cases with ⟨rfl, h0, h1, H0⟩ | ⟨g, cap, cur, rfl, h1, h2, h3, h4, h5, H0⟩
  · have : ks = [] := List.eq_nil_of_length_eq_zero h0
    subst this
    refine (Tryz.slices_Sort_int_none _ _ _).mono ?_
    rintro e w' ⟨rfl, rfl⟩
    exact ⟨rfl, by simpa using H⟩
  · have hh := H0.has
    have hH : Holds (Value.int .i64) w g 0 ks.toArray := by
      intro j hj
      simp only [List.size_toArray] at hj
      have hu : (ks.map ik)[j]? = some (ik ks[j]) := by simp [hj]
      rw [← h4, List.getElem?_take] at hu
      have hj2 : j < ks.length * 1 := by omega
      simp only [hj2, if_true, Array.getElem?_toList] at hu
      refine ⟨?_, ?_⟩
      · simp [World.cell?, hh, hu, hj]
      · simp [World.frozen?, hh]
    refine (Tryz.slices_Sort_int g 0 cap ks w hH H0.lt (by omega)).mono ?_
    rintro e w' ⟨rfl, n, os, rfl⟩
    refine ⟨rfl, own_grow ?_ os⟩
    have hp := (List.mergeSort_perm ks (fun x y => decide (x ≤ y))).length_eq
    have hat := putCells_at (Value.int .i64) (ks.mergeSort fun x y => decide (x ≤ y)) cur (by rw [hp]; omega)
    rw [hp] at hat
    exact (own_putRow H0 (Value.int .i64) n _).row_of_blk h1 h2 (by simp [putCells, h3]) (by rw [Nat.mul_one]; exact hat)
end Sk
/- Package accept: the other methods. -/
namespace Sk
open Go Go.RowKit Go.Proofs
attribute [local go_sem ↓] run_eql_bal run_neq_bal run_max_hide run_min_hide
set_option maxRecDepth 100000 in
set_option maxHeartbeats 1000000 in
theorem accNew {W w : World} {L : List Asn} (H : Own W w L) (n : Int) (h1 : 1 ≤ n) (h2 : n ≤ 7) : Calls Tryz.prog 88 #[ei n] w fun e w' => ∃ b, e = .returned (.tuple #[ptr b, ei 0]) ∧ Own W w' (accA b ⟨n, Bal.zero, fun _ => none, 0⟩ :: L) := by
  have hmm := @run_makeMap Tryz.prog
  go_enter Tryz.func88, Tryz.ntmps88
  go_wp2
  refine bodyPost_ret (v := .tuple #[ptr (w.heap.size + 1), ei 0]) (by simp [results, Tryz.results88, go_sem]) rfl ?_
  refine ⟨_, rfl, ?_⟩
  have H1 := (H.made ik entV goodInt).alloc (.cells #[ei n, ei 0, ei 0, .map (some w.heap.size), ei 0] 158)
  rw [World.size_alloc] at H1
  exact Own.acc_shut (s := ⟨n, Bal.zero, fun _ => none, 0⟩) H1
set_option maxRecDepth 100000 in
set_option maxHeartbeats 1000000 in
theorem accNewNo (n : Int) (w : World) (h : n < 1 ∨ 7 < n) : Calls Tryz.prog 88 #[ei n] w fun e w' => e = .returned (.tuple #[.pointer none, ei 2]) ∧ w = w' := by
  rcases h with h | h
  · go_enter Tryz.func88, Tryz.ntmps88
    go_wp2
    go_ret2
    exact ⟨rfl, rfl⟩
  · have h' : ¬ n < 1 := by omega
    go_enter Tryz.func88, Tryz.ntmps88
    go_wp2
    go_ret2
    exact ⟨rfl, rfl⟩
section
variable {W w : World} {L : List Asn} {b : Nat} {s : Acc}
set_option maxRecDepth 100000 in
set_option maxHeartbeats 1000000 in
theorem accPromised (H : Own W w (accA b s :: L)) (hn : 0 < s.n) : Calls Tryz.prog 64 #[ptr b] w fun e w' => e = .returned s.prom.v ∧ Own W w' (accA b s :: L) := by
  obtain ⟨m, H0⟩ := H.acc_open
  have hc := H0.cell
  have hf := H0.free
  have hlt := H0.lt
  have hlt1 : b < w.heap.size + 1 := by omega
  go_enter Tryz.func64, Tryz.ntmps64
  go_wp2_with (go_at_call 116; go_in)
  refine bodyPost_ret (v := s.prom.v) (by simp [results, Tryz.results64, go_sem]) rfl ?_
  exact ⟨rfl, H.skip _⟩
set_option maxRecDepth 100000 in
set_option maxHeartbeats 1000000 in
theorem accBase (H : Own W w (accA b s :: L)) (hn : 0 < s.n) : Calls Tryz.prog 102 #[ptr b] w fun e w' => e = .returned (ei s.base) ∧ w = w' := by
  obtain ⟨m, H0⟩ := H.acc_open
  have hc := H0.cell
  have hf := H0.free
  have hlt := H0.lt
  have hlt1 : b < w.heap.size + 1 := by omega
  go_enter Tryz.func102, Tryz.ntmps102
  go_wp2_with (go_at_call 116; go_in)
  go_ret
  exact ⟨rfl, rfl⟩
/-- What was accepted at a slot. -/
def acpV (s : Acc) (slot : Int) : Value := match s.ent slot with | some x => .tuple #[entV slot x, .bool true] | none => .tuple #[entV 0 (Bal.zero, ByteArray.empty), .bool false]
theorem acpV_some {s : Acc} {slot : Int} {x : Bal × Str} (h : s.ent slot = some x) : acpV s slot = .tuple #[entV slot x, .bool true] := by unfold acpV; rw [h]
theorem acpV_none {s : Acc} {slot : Int} (h : s.ent slot = none) : acpV s slot = .tuple #[entV 0 (Bal.zero, ByteArray.empty), .bool false] := by unfold acpV; rw [h]
set_option maxRecDepth 100000 in
set_option maxHeartbeats 1000000 in
theorem accAccepted (H : Own W w (accA b s :: L)) (hn : 0 < s.n) (slot : Int) (hs : goodInt slot) : Calls Tryz.prog 62 #[ptr b, ei slot] w fun e w' => e = .returned (acpV s slot) ∧ Own W w' (accA b s :: L) := by
  obtain ⟨m, H0⟩ := H.acc_open
  have hc := H0.cell
  have hf := H0.free
  have hlt := H0.lt
  have hlt1 : b < w.heap.size + 1 := by omega
  have H1 := (H0.skip (.cells #[ei 0, ei 0, ei 0, .string ⟨#[]⟩] 92))
  rcases h : s.ent slot with _ | x
  · rw [acpV_none h]
    have hlk := H1.front2.lookup_none entT hs h
    clear h hs
    go_enter Tryz.func62, Tryz.ntmps62
    go_wp2_with (go_at_call 116; go_in)
    refine bodyPost_ret (v := .tuple #[entV 0 (Bal.zero, ByteArray.empty), .bool false]) (by simp [results, Tryz.results62, go_sem]) rfl ?_
    exact ⟨rfl, (H1.skip _).acc_shut⟩
  · rw [acpV_some h]
    have hlk := H1.front2.lookup_some entT hs h
    clear h hs
    go_enter Tryz.func62, Tryz.ntmps62
    go_wp2_with (go_at_call 116; go_in)
    refine bodyPost_ret (v := .tuple #[entV slot x, .bool true]) (by simp [results, Tryz.results62, go_sem]) rfl ?_
    exact ⟨rfl, ((H0.skip _).skip _).acc_shut⟩
def Acc.forget (s : Acc) (u : Int) : Int × Acc := if u < 0 ∨ 4096 < u then (2, s) else (0, { s with ent := cutF s.ent u, base := max s.base u })
theorem forget_no {s : Acc} {u : Int} (h : u < 0 ∨ 4096 < u) : s.forget u = (2, s) := if_pos h
theorem forget_yes {s : Acc} {u : Int} (h : ¬ (u < 0 ∨ 4096 < u)) : s.forget u = (0, { s with ent := cutF s.ent u, base := max s.base u }) := if_neg h
set_option maxRecDepth 100000 in
set_option maxHeartbeats 1000000 in
theorem forget1 {w : World} {p : Nat} (k u : Int) (h : w.cell? ⟨p, 0, none⟩ = some (ei u)) : Calls Tryz.prog 126 #[ei k, ptr p] w fun e w' => e = .returned (.bool (decide (k < u))) ∧ w = w' := by
  go_enter Tryz.func126, Tryz.ntmps126
  go_wp2
  go_ret
  exact ⟨rfl, rfl⟩
set_option maxRecDepth 100000 in
set_option maxHeartbeats 1000000 in
theorem accForget (H : Own W w (accA b s :: L)) (hn : 0 < s.n) (u : Int) (hk : ∀ k, s.ent k ≠ none → 0 ≤ k ∧ k < 4096) : Calls Tryz.prog 41 #[ptr b, ei u] w fun e w' => e = .returned (ei (s.forget u).1) ∧ Own W w' (accA b (s.forget u).2 :: L) := by
  obtain ⟨m, H0⟩ := H.acc_open
  have hc := H0.cell
  have hf := H0.free
  have hlt := H0.lt
  have hlt1 : b < w.heap.size + 1 := by omega
  by_cases hu : u < 0 ∨ 4096 < u
  · rw [forget_no hu]
    clear hk
    by_cases h0 : u < 0
    · clear hu
      go_enter Tryz.func41, Tryz.ntmps41
      go_wp2_with (go_at_call 116; go_in)
      go_ret
      exact ⟨rfl, H.skip _⟩
    · have h1 : 4096 < u := by omega
      clear hu
      go_enter Tryz.func41, Tryz.ntmps41
      go_wp2_with (go_at_call 116; go_in)
      go_ret
      exact ⟨rfl, H.skip _⟩
  · rw [forget_yes hu]
    have h0 : 0 ≤ u := by omega
    have h1 : u ≤ 4096 := by omega
    have HK := Lib.hid hk
    clear hu hk
    have H1 := (H0.alloc (.cells #[ei u] 3)).sel [2, 1, 0]
    obtain ⟨left, w1, hleft, hrun, H2⟩ := H1.range entT
    have HL := Lib.hid hleft
    have hc1 := H2.front2.cell
    clear hleft
    go_enter Tryz.func41, Tryz.ntmps41
    go_wp2_with (go_at_call 116; go_in)
    go_loopw [24] (fun _ wr => ∃ (f : Int → Option (Bal × Str)) (left : List Int), left.Nodup ∧ (∀ k ∈ left, f k = s.ent k ∧ s.ent k ≠ none) ∧ (∀ k, k ∉ left → f k = cutF s.ent u k) ∧ Own W wr (rngA ik entV goodInt (w.heap.size + 1) m f left :: blk b (accCells s m) :: blk w.heap.size (.cells #[ei u] 3) :: L)) (fun _ wr => leftN wr (w.heap.size + 1))
    case atStart =>
      rw [World.size_alloc] at H2
      have hnd : left.Nodup := by obtain ⟨_, _, _, _, _, _, _, _, _, _, h, _⟩ := H2.rng_open; exact h
      refine ⟨s.ent, left, hnd, fun k hk => ⟨rfl, (HL.out k).1 hk⟩, fun k hk => ?_, H2⟩
      have : s.ent k = none := by
        have := HL.out k
        cases h : s.ent k with
        | none => rfl
        | some v => exact absurd (this.2 (by rw [h]; simp)) hk
      unfold cutF; rw [this]; split <;> rfl
    case round =>
      obtain ⟨f, left, hnd, hl1, hl2, HH⟩ := hrel
      have hlen := HH.rng_len entT
      have hcp := HH.front3.cell
      have hcb := HH.front2.cell
      have hfb := HH.front2.free
      rcases HH.next entT 0 with ⟨rfl, hnx⟩ | ⟨k, v, w2, hk, hfk, hnx, hen, hsz, H3⟩
      · have he : f = cutF s.ent u := funext fun k => hl2 k (by simp)
        subst he
        clear hl1 hl2 hnd hlen
        have H3 := HH.rng_end.sel [1, 0, 2]
        have H4 := H3.drew.set 4 (.int .i64 (mxI s.base u))
        go_wp2_with (first | (refine wp_still_tail (id := 11) 9 (by kernel_rfl) (by kernel_rfl) ?_; simp only [List.take_succ_cons, List.take_zero, List.drop_succ_cons, List.drop_zero]) | (refine still_plain rfl (fun K hK => ?_); go_simp; refine hK _ ?_; clear hK K) | (refine wpStill_nil ?_))
        go_ret
        refine ⟨rfl, ?_⟩
        rw [← mxI_eq]
        exact Own.acc_shut (s := { s with ent := cutF s.ent u, base := mxI s.base u }) H4.drop3
      · obtain ⟨hke, hkn⟩ := hl1 k hk
        have hcp2 := H3.front3.cell
        have hcb2 := H3.front2.cell
        have hfb2 := H3.front2.free
        by_cases hku : k < u
        · obtain ⟨w3, hdl, H4⟩ := H3.rng_delete entT (goodInt_of (k := k) (by have := HK.out k hkn; omega) (by have := HK.out k hkn; omega)) 0
          have HX := Lib.hid (show leftN wr (w.heap.size + 1) = left.length ∧ left.Nodup ∧ k ∈ left ∧ (∀ k ∈ left, f k = s.ent k ∧ s.ent k ≠ none) ∧ (∀ k, k ∉ left → f k = cutF s.ent u k) from ⟨hlen, hnd, hk, hl1, hl2⟩)
          clear hl1 hl2 hnd hlen hk hke hkn hfk hrun
          go_wp2_with (go_at_call 126; refine (forget1 k u (hcp2 0)).mono ?_; rintro e w4 ⟨rfl, rfl⟩)
          have hlen2 := H4.rng_len entT
          obtain ⟨a1, a2, a3, a4, a5⟩ := HX.out
          have hee : (left.erase k).erase k = left.erase k := List.erase_of_not_mem (fun h => by rw [List.Nodup.mem_erase_iff a2] at h; exact h.1 rfl)
          rw [hee] at H4 hlen2
          refine ⟨⟨fset f k none, left.erase k, a2.erase k, fun i hi => ?_, fun i hi => ?_, H4⟩, ?_⟩
          · rw [List.Nodup.mem_erase_iff a2] at hi
            simp only [fset, if_neg hi.1]
            exact a4 i hi.2
          · by_cases hik : i = k
            · subst hik; simp [fset, cutF, hku]
            · simp only [fset, if_neg hik]
              refine a5 i (fun h => hi ?_)
              rw [List.Nodup.mem_erase_iff a2]
              exact ⟨hik, h⟩
          · rw [hlen2, a1, List.length_erase_of_mem a3]
            have := List.length_pos_of_mem a3
            omega
        · have HX := Lib.hid (show leftN wr (w.heap.size + 1) = left.length ∧ left.Nodup ∧ k ∈ left ∧ (∀ k ∈ left, f k = s.ent k ∧ s.ent k ≠ none) ∧ (∀ k, k ∉ left → f k = cutF s.ent u k) from ⟨hlen, hnd, hk, hl1, hl2⟩)
          clear hl1 hl2 hnd hlen hk hke hkn hfk hrun
          go_wp2_with (go_at_call 126; refine (forget1 k u (hcp2 0)).mono ?_; rintro e w4 ⟨rfl, rfl⟩)
          have hlen2 := H3.rng_len entT
          obtain ⟨a1, a2, a3, a4, a5⟩ := HX.out
          refine ⟨⟨f, left.erase k, a2.erase k, fun i hi => ?_, fun i hi => ?_, H3⟩, ?_⟩
          · rw [List.Nodup.mem_erase_iff a2] at hi
            exact a4 i hi.2
          · by_cases hik : i = k
            · subst hik
              have : ¬ i < u := by omega
              simp only [cutF, if_neg this]
              exact (a4 i a3).1
            · refine a5 i (fun h => hi ?_)
              rw [List.Nodup.mem_erase_iff a2]
              exact ⟨hik, h⟩
          · rw [hlen2, a1, List.length_erase_of_mem a3]
            have := List.length_pos_of_mem a3
            omega
end
end Sk
/- Package wire: the writer. -/
namespace Sk
open Go Go.RowKit Go.Proofs
attribute [local go_sem] Oper.semAt_some
attribute [local go_sem ↓] append_hide
/-- The bytes of a number. -/
def encN (n : Nat) : List Nat := if n < 128 then [n] else (n % 128 + 128) :: encN (n / 128)
theorem encN_lt {n : Nat} (h : n < 128) : encN n = [n] := by rw [encN, if_pos h]
theorem encN_ge {n : Nat} (h : ¬ n < 128) : encN n = (n % 128 + 128) :: encN (n / 128) := by rw [encN, if_neg h]
/-- The number in a cell. -/
def cellN (w : World) (q : Nat) : Nat := match w.cell? ⟨q, 0, none⟩ with | some (.int _ k) => k.toNat | _ => 0
theorem cellN_of {w : World} {q : Nat} {kd : IntKind} {k : Nat} (h : w.cell? ⟨q, 0, none⟩ = some (.int kd (k : Int))) : cellN w q = k := by simp [cellN, h]
theorem or128_small : ∀ r : Fin 256, bits BinOp.or IntKind.u8 ((r.1 : Nat) : Int) 128 = ((r.1 % 128 + 128 : Nat) : Int) := by decide +kernel
theorem or128 (k : Nat) : bits BinOp.or IntKind.u8 ((k : Int) % 256) 128 = ((k % 128 + 128 : Nat) : Int) := by
  have h := or128_small ⟨k % 256, by omega⟩
  have e : ((k : Int) % 256) = ((k % 256 : Nat) : Int) := by omega
  rw [e, h]
  simp only []
  omega
set_option maxRecDepth 100000 in
set_option maxHeartbeats 1000000 in
theorem digits1 {W : World} (m l q n : Nat) (hn : n < 18446744073709551616) (J Jx : List Nat → List Asn)
    (hY : ∀ (pre : List Nat) (x : Nat) (rest : List Nat) (w' : World) (R : List Asn), pre ++ x :: rest = encN n → Own W w' (J pre ++ R) → YieldAt FW m Tryz.prog l #[.int .u8 (x : Int)] w' fun e w'' =>
      (e = .returned (.bool true) ∧ Own W w'' (J (pre ++ [x]) ++ R)) ∨ (e = .returned (.bool false) ∧ Own W w'' (Jx (pre ++ [x]) ++ R)))
    (w : World) (H : Own W w (J [] ++ [blk q (.cells #[.int .u64 (n : Int)] 108)])) :
    CallsIn FW (m + 1) Tryz.prog 221 #[.func (.yield l) #[] #[], ptr q] w fun e w' => (∃ v, e = .returned v) ∧
      (Own W w' (J (encN n)) ∨ ∃ pre x rest, pre ++ x :: rest = encN n ∧ Own W w' (Jx (pre ++ [x]))) := by
  refine callsIn_of_wp Tryz.func221 rfl trivial ?_ rfl
  simp only [Tryz.ntmps221, List.size_toArray, List.length_cons, List.length_nil, Nat.reduceAdd, Nat.reduceSub, Array.replicate_succ, Array.replicate_zero, List.push_toArray, List.append_toArray, List.nil_append, List.cons_append]
  gi_wp2
  gi_loopw [] (fun wr => ∃ (pre : List Nat) (k : Nat), k < 18446744073709551616 ∧ pre ++ encN k = encN n ∧ Own W wr (J pre ++ [blk q (.cells #[.int .u64 (k : Int)] 108)])) (fun wr => cellN wr q)
  case atStart => exact ⟨[], n, hn, rfl, H⟩
  case round =>
    obtain ⟨pre, k, hk, he, HH⟩ := hrel
    have H0 := Own.front (J pre) HH
    have hc : wr.cell? ⟨q, 0, none⟩ = some (.int .u64 (k : Int)) := H0.cell 0
    have hf := H0.free
    by_cases hk1 : k < 128
    · rw [encN_lt hk1] at he
      obtain ⟨fn, tmps, assign, body, hy, hR⟩ := hY pre _ _ wr _ he HH
      have HR := Lib.hid hR
      clear hR
      have e : ((k : Int) % 256) = (k : Int) := by omega
      have E := Lib.hid e
      clear e
      gi_wp2_with fail
      refine HR.out.mono ?_
      rintro e W' (⟨rfl, H'⟩ | ⟨rfl, H'⟩)
      · gi_wp2_with fail
        refine bodyPost_end (results_none rfl _ _ _) rfl ?_
        exact ⟨⟨_, rfl⟩, .inl (by rw [← he]; simpa using (Own.front _ H').drop)⟩
      · gi_wp2_with fail
        refine bodyPost_end (results_none rfl _ _ _) rfl ?_
        exact ⟨⟨_, rfl⟩, .inr ⟨pre, _, [], he, by simpa using (Own.front _ H').drop⟩⟩
    · have hk2 : 128 ≤ k := by omega
      rw [encN_ge hk1] at he
      obtain ⟨fn, tmps, assign, body, hy, hR⟩ := hY pre _ _ wr _ he HH
      have HR := Lib.hid hR
      clear hR hk1
      rw [← or128] at hy
      gi_wp2_with fail
      refine HR.out.mono ?_
      rintro e W' (⟨rfl, H'⟩ | ⟨rfl, H'⟩)
      · have H1 := Own.front _ H'
        have hc1 : W'.cell? ⟨q, 0, none⟩ = some (.int .u64 (k : Int)) := H1.cell 0
        have hf1 := H1.free
        gi_wp2_with fail
        have e1 : (k : Int) / 128 = ((k / 128 : Nat) : Int) := by omega
        have H2 := H1.set 0 (.int .u64 ((k / 128 : Nat) : Int))
        have hc2 : (W'.setCell ⟨q, 0, none⟩ (.int .u64 ((k / 128 : Nat) : Int))).cell? ⟨q, 0, none⟩ = some (.int .u64 ((k / 128 : Nat) : Int)) := H2.cell 0
        rw [e1]
        refine ⟨⟨_, _, ?_, (List.append_assoc _ _ _).trans he, Own.back _ H2⟩, ?_⟩
        · omega
        · rw [cellN_of hc2, cellN_of hc]; omega
      · gi_wp2_with fail
        refine bodyPost_ret (results_none rfl _ _ _) rfl ?_
        exact ⟨⟨_, rfl⟩, .inr ⟨pre, _, _, he, by simpa using (Own.front _ H').drop⟩⟩
@[reducible] def byteV (c : UInt8) : Value := .int .u8 (c.toNat : Int)
def encU (n : Nat) : List UInt8 := (encN n).map UInt8.ofNat
theorem encN_len : ∀ (k n : Nat), n < 128 ^ (k + 1) → (encN n).length ≤ k + 1
  | 0, n, h => by rw [encN_lt (by simpa using h)]; simp
  | k + 1, n, h => by
    by_cases hn : n < 128
    · rw [encN_lt hn]; simp
    · rw [encN_ge hn]
      have := encN_len k (n / 128) (by rw [Nat.div_lt_iff_lt_mul (by omega)]; simpa [Nat.pow_succ] using h)
      simp; omega
theorem encN_byte : ∀ (n : Nat), ∀ x ∈ encN n, x < 256 := by
  intro n
  induction n using Nat.strongRecOn with
  | _ n ih =>
    intro x hx
    by_cases hn : n < 128
    · rw [encN_lt hn] at hx; simp at hx; omega
    · rw [encN_ge hn] at hx
      rcases List.mem_cons.1 hx with rfl | hx
      · omega
      · exact ih _ (by omega) x hx
def wrA (b : Nat) (s : List UInt8) : Asn := exi fun v : Value => grp [blk b (.cells #[.bool true, v] 201), rowA 5 1 v s.length (s.map byteV)]
theorem byteT : SlT Tryz.prog 24 5 1 1 where
  type := Tryz.underlying24
  info := info_parts1 (z := .int .u8 0) (by kernel_rfl) rfl
  pos := by decide
section
variable {W w : World} {L : List Asn} {b : Nat} {s : List UInt8}
theorem Own.wr_open (H : Own W w (wrA b s :: L)) : ∃ v, Own W w (blk b (.cells #[.bool true, v] 201) :: rowA 5 1 v s.length (s.map byteV) :: L) := by
  obtain ⟨v, H⟩ := Own.exi_iff.1 H
  exact ⟨v, Own.grp_iff.1 H⟩
theorem Own.wr_shut {v : Value} (H : Own W w (blk b (.cells #[.bool true, v] 201) :: rowA 5 1 v s.length (s.map byteV) :: L)) : Own W w (wrA b s :: L) := Own.exi_iff.2 ⟨v, Own.grp_iff.2 H⟩
end
theorem Own.wr_shut' {W w : World} {L : List Asn} {b : Nat} {t : List UInt8} {x : Int} {v : Value} {c : UInt8} (H : Own W w (blk b (.cells #[.bool true, v] 201) :: rowA 5 1 v (t.length + 1) (t.map byteV ++ #[.int .u8 x].toList) :: L)) (hc : byteV c = .int .u8 x) :
    Own W w (wrA b (t ++ [c]) :: L) := by
  refine Own.wr_shut (v := v) ?_
  have e : (t ++ [c]).map byteV = t.map byteV ++ #[.int .u8 x].toList := by rw [List.map_append, ← hc]; rfl
  rw [e, List.length_append]
  exact H
set_option maxHeartbeats 1000000 in
theorem digitsC (n : Int) (w : World) : Calls Tryz.prog 201 #[.int .u64 n] w fun e w' => e = .returned (.func (.func 221) #[] #[ptr w.heap.size]) ∧ w.alloc (.cells #[.int .u64 n] 108) = w' := by
  go_enter Tryz.func201, Tryz.ntmps201
  go_wp2
  go_ret
  exact ⟨rfl, rfl⟩
set_option maxRecDepth 100000 in
set_option maxHeartbeats 1000000 in
theorem wrUint {W w : World} {L : List Asn} {b : Nat} {s : List UInt8} (H : Own W w (wrA b s :: L)) (n : Nat) (hn : n < 18446744073709551616) (hs : s.length ≤ 1099511627776) :
    Calls Tryz.prog 156 #[ptr b, .int .u64 (n : Int)] w fun e w' => e = .returned (.tuple #[]) ∧ Own W w' (wrA b (s ++ encU n) :: L) := by
  refine (callsIn_wide (n := 5)).1 ?_
  refine callsIn_of_wp_marks Tryz.func156 rfl trivial ?_ rfl
  simp only [Tryz.ntmps156, List.size_toArray, List.length_cons, List.length_nil, Nat.reduceAdd, Nat.reduceSub, Array.replicate_succ, Array.replicate_zero, List.push_toArray, List.append_toArray, List.nil_append, List.cons_append]
  obtain ⟨v, H0⟩ := H.wr_open
  have hc := H0.cell
  have hlt := H0.lt
  clear H0
  gi_wp2_with (refine ⟨trivial, ?_⟩; gi_at_call 201; refine callsIn_wide.2 ((digitsC _ _).mono ?_); rintro e w' ⟨rfl, rfl⟩)
  have H1 := ((H.alloc (.cells #[ptr b] 99)).alloc (.cells #[.int .u64 (n : Int)] 108))
  rw [World.size_alloc] at H1
  have hb256 := encN_byte n
  have hlen := encN_len 9 n (by omega)
  refine range_own (Ld := blk w.heap.size (.cells #[ptr b] 99) :: wrA b (s ++ encU n) :: L) (Lx := fun _ => [pur False]) H1 rfl (enters_of Tryz.func221 (by kernel_rfl) rfl) ?iter ?done ?stop
  case iter =>
    intro r l D w1 R HI
    refine (digits1 3 l (w.heap.size + 1) n hn (fun pre => blk l (.loop r) :: blk D (.deferred (some [])) :: blk w.heap.size (.cells #[ptr b] 99) :: wrA b (s ++ pre.map UInt8.ofNat) :: L)
      (fun _ => [pur False]) ?_ w1 (by simpa using HI.front3.last)).mono ?_
    · intro pre x rest w' RR hx H'
      have hlx : (s ++ pre.map UInt8.ofNat).length + 1 ≤ 2199023255552 := by
        have : (pre ++ x :: rest).length ≤ 10 := by rw [hx]; exact hlen
        simp at this ⊢; omega
      have hx8 : x < 256 := hb256 x (by rw [← hx]; simp)
      have e1 : s ++ (pre ++ [x]).map UInt8.ofNat = (s ++ pre.map UInt8.ofNat) ++ [UInt8.ofNat x] := by simp
      rw [e1]
      clear e1
      generalize s ++ pre.map UInt8.ofNat = t at *
      have hxv : byteV (UInt8.ofNat x) = .int .u8 (x : Int) := by simp [byteV, Nat.mod_eq_of_lt hx8]
      have HX := Lib.hid hxv
      clear hxv hx
      have Y : YieldAt FW 3 Tryz.prog l #[.int .u8 (x : Int)] w' (yielded' W l r ((blk D (.deferred (some [])) :: blk w.heap.size (.cells #[ptr b] 99) :: wrA b (t ++ [UInt8.ofNat x]) :: L) ++ RR) (fun _ => [pur False])) := by
        refine round_is R H' rfl ?_
        gi_wp2
        refine ⟨_, H', fun w₂ H2 => ?_⟩
        have hb0 : w₂.cell? ⟨w.heap.size, 0, none⟩ = some (ptr b) := H2.front3.cell 0
        have hlt0 := H2.front3.lt
        obtain ⟨v2, H3⟩ := H2.front4.wr_open
        obtain ⟨A2, c2, rfl, _⟩ := H3.front2.row_rd.form
        have hltb := H3.lt
        have hc := H3.cell
        have hf := H3.free
        gi_wp2_with fail
        have hmx : Tryz.prog.follows .mixedOrders = true := by kernel_rfl
        have H5 := ((H3.skip (.cells #[.int .u8 (x : Int)] 5)).drew).front2
        obtain ⟨A', c', w3, hap, H6⟩ := H5.append_eq (m := 1) byteT 24 (rd_new w₂ #[.int .u8 (x : Int)] 5 rfl (by decide)).drew (by simp [Value.oneCell']) (by unfold maxLen; omega) (by omega)
        have hb3 : w3.cell? ⟨w.heap.size, 0, none⟩ = some (ptr b) := H6.front5.cell 0
        have H7 := H6.front2
        have hc7 := H7.cell
        have hf7 := H7.free
        refine region_fl [0, 1, 2, 3, 4, 5] [6, 7, 8, 9, 10] [8, 9, 10] (fun w' => w'.cell? ⟨w.heap.size, 0, none⟩ = some (ptr b) ∧ w'.cell? ⟨b, 1, none⟩ = some (.slice A2 t.length c2)) (fun _ => trivial) (by kernel_rfl) (by kernel_rfl) ?hS ?_
        case hS => go_simp
        apply hd_on (i := 0) rfl rfl
        · (intro w' hS; go_simp; try rfl)
        simp only [List.getElem_toArray, List.getElem_cons_succ, List.getElem_cons_zero, Act.put, List.setIfInBounds_toArray, List.set_cons_succ, List.set_cons_zero]
        apply hd_on (i := 1) rfl rfl
        · (intro w' hS; go_simp; try rfl)
        simp only [List.getElem_toArray, List.getElem_cons_succ, List.getElem_cons_zero, Act.put, List.setIfInBounds_toArray, List.set_cons_succ, List.set_cons_zero]
        apply hd_on (i := 2) rfl rfl
        · (intro w' hS; go_simp; try rfl)
        simp only [List.getElem_toArray, List.getElem_cons_succ, List.getElem_cons_zero, Act.put, List.setIfInBounds_toArray, List.set_cons_succ, List.set_cons_zero]
        apply hd_on (i := 3) rfl rfl
        · (intro w' hS; go_simp; try rfl)
        simp only [List.getElem_toArray, List.getElem_cons_succ, List.getElem_cons_zero, Act.put, List.setIfInBounds_toArray, List.set_cons_succ, List.set_cons_zero]
        apply hd_on (i := 4) rfl rfl
        · (intro w' hS; go_simp; try rfl)
        simp only [List.getElem_toArray, List.getElem_cons_succ, List.getElem_cons_zero, Act.put, List.setIfInBounds_toArray, List.set_cons_succ, List.set_cons_zero]
        apply hd_on (i := 5) rfl rfl
        · (intro w' hS; go_simp; try rfl)
        simp only [List.getElem_toArray, List.getElem_cons_succ, List.getElem_cons_zero, Act.put, List.setIfInBounds_toArray, List.set_cons_succ, List.set_cons_zero]
        refine hd_nil ?_
        refine tl_on (i := 6) (fun _ => trivial) (fun _ h => by cases h) rfl rfl (fun K hK => ?_)
        go_simp
        refine hK _ _ ⟨fun _ => ?_, ?_⟩
        · (go_simp)
        clear hK K
        refine tl_on (i := 7) (fun _ => trivial) (fun _ h => by cases h) rfl rfl (fun K hK => ?_)
        go_simp
        refine hK _ _ ⟨fun _ => ?_, ?_⟩
        · (go_simp)
        clear hK K
        refine tl_on (i := 8) (fun _ => trivial) (fun _ h => by cases h) rfl rfl (fun K hK => ?_)
        go_simp
        refine hK _ _ ⟨fun h => by simp at h, ?_⟩
        clear hK K
        refine tl_on (i := 9) (fun _ => trivial) (fun _ h => by cases h) rfl rfl (fun K hK => ?_)
        go_simp
        refine hK _ _ ⟨fun h => by simp at h, ?_⟩
        clear hK K
        refine tl_on (i := 10) (fun _ => trivial) (fun _ h => by cases h) rfl rfl (fun K hK => ?_)
        go_simp
        refine hK _ _ ⟨fun h => by simp at h, ?_⟩
        clear hK K
        refine tl_nil ?_
        gi_wp2
        exact ((H7.set 1 (.slice A' (t.length + 1) c')).wr_shut' HX.out).back4
      exact Y.mono fun e w'' h => by
        rcases h with ⟨rfl, h⟩ | ⟨rfl, c, h⟩
        · exact .inl ⟨rfl, h⟩
        · exact ((Own.pur_iff.1 h.front2).1).elim
    · rintro e w2 ⟨hv, h⟩
      refine ⟨hv, ?_⟩
      rcases h with h | ⟨_, _, _, _, h⟩
      · exact .inl h
      · exact ((Own.pur_iff.1 h).1).elim
  case done =>
    intro D w2 H2
    gi_wp2
    refine ⟨by simp, .inl ⟨_, _, rfl, run_takeDeferred H2.has, ?_⟩⟩
    exact ⟨_, results_none rfl _ _ _, rfl, (H2.putObj _).drop.drop⟩
  case stop =>
    intro D c w2 H2
    exact ((Own.pur_iff.1 H2.front2).1).elim
end Sk
/- Package wire: the rest of the writer; clones of bytes. -/
namespace Sk
open Go Go.RowKit Go.Proofs
attribute [local go_sem ↓] append_hide
/-- A call has returned a slice of its own. -/
def RetRow (W : World) (e : TypeId) (size n : Nat) (xs : List Value) (L : List Asn) (en : Ending) (w' : World) : Prop :=
  ∃ A c, en = .returned (.slice A n c) ∧ Own W w' (rowA e size (.slice A n c) n xs :: L)
theorem strCells_byteV (s : ByteArray) : Lib.strCells s = s.data.toList.map byteV := rfl
theorem bytes_one (xs : List UInt8) : ∀ u ∈ xs.map byteV, u.oneCell' = true := by
  intro u hu
  obtain ⟨c, _, rfl⟩ := List.mem_map.1 hu
  rfl
set_option maxRecDepth 100000 in
set_option maxHeartbeats 1000000 in
theorem cloneB {W w : World} {L : List Asn} (H : Own W w L) {x : Value} {n : Nat} {xs : List UInt8} (hr : RdW w 1 x n (xs.map byteV)) (hn : n ≤ 140737488355328) :
    Calls Tryz.prog 17 #[x] w (RetRow W 5 1 n (xs.map byteV) L) := by
  have hr0 := hr
  obtain ⟨hl, A, c, rfl, hc, hm, hA⟩ := hr
  have hq := fun w => Lib.run_eql_slice_nil (P := Tryz.prog) w 24 5 A n c 0 0 Tryz.underlying24
  rcases A with _ | ad
  · have hn0 : n = 0 := by
      rcases Nat.eq_zero_or_pos n with h | h
      · exact h
      · obtain ⟨_, h, _⟩ := hA h; cases h
    subst hn0
    have hx : xs.map byteV = [] := List.eq_nil_of_length_eq_zero (by simpa using hl)
    rw [hx]
    simp only [Option.isNone_none] at hq
    go_enter Tryz.func17, Tryz.ntmps17
    go_wp2
    go_ret
    exact ⟨none, 0, rfl, H.row_nil _ _⟩
  · simp only [Option.isNone_some] at hq
    have H1 : Own W _ (rowA 5 1 (.slice (some ⟨w.heap.size, 0, none⟩) 0 0) 0 [] :: L) := (H.alloc (.cells #[] 5)).row_of_blk (by omega) (by omega) rfl rfl
    obtain ⟨A', c', w', hap, H2⟩ := H1.append_eq (m := n) byteT 24 (hr0.alloc _) (bytes_one xs) (by unfold maxLen; omega) (by omega)
    simp only [Nat.zero_add, List.nil_append] at hap H2
    have HAP := Lib.hid hap
    clear hap
    go_enter Tryz.func17, Tryz.ntmps17
    go_wp2_with (rw [HAP.out])
    go_ret
    exact ⟨A', c', rfl, H2⟩
set_option maxHeartbeats 1000000 in
theorem wrBytes {W w : World} {L : List Asn} {b : Nat} {s : List UInt8} (H : Own W w (wrA b s :: L)) (hn : s.length ≤ 140737488355328) :
    Calls Tryz.prog 150 #[ptr b] w (RetRow W 5 1 s.length (s.map byteV) (wrA b s :: L)) := by
  obtain ⟨v, H0⟩ := H.wr_open
  have hc := H0.cell
  have hr := H0.front2.row_rd
  go_enter Tryz.func150, Tryz.ntmps150
  go_wp2_with (go_at_call 17; refine (cloneB H hr hn).mono ?_; rintro e w' ⟨A', c', rfl, H2⟩)
  go_ret
  exact ⟨A', c', rfl, H2⟩
set_option maxHeartbeats 1000000 in
theorem wrLen {W w : World} {L : List Asn} {b : Nat} {s : List UInt8} (H : Own W w (wrA b s :: L)) :
    Calls Tryz.prog 149 #[ptr b] w fun e w' => e = .returned (ei s.length) ∧ w = w' := by
  obtain ⟨v, H0⟩ := H.wr_open
  have hc := H0.cell
  obtain ⟨A, c, rfl, _⟩ := H0.front2.row_rd.form
  clear H0
  go_enter Tryz.func149, Tryz.ntmps149
  go_wp2
  go_ret
  exact ⟨rfl, rfl⟩
set_option maxHeartbeats 1000000 in
theorem wrNew {W w : World} {L : List Asn} (H : Own W w L) :
    Calls Tryz.prog 148 #[] w fun e w' => e = .returned (ptr w.heap.size) ∧ Own W w' (wrA w.heap.size [] :: L) := by
  have H1 := H.alloc (.cells #[.bool true, .slice none 0 0] 201)
  go_enter Tryz.func148, Tryz.ntmps148
  go_wp2
  go_ret
  exact ⟨rfl, ((H1.row_nil 5 1).front2).wr_shut (s := [])⟩
set_option maxHeartbeats 1000000 in
theorem wrText {W w : World} {L : List Asn} {b : Nat} {s : List UInt8} (H : Own W w (wrA b s :: L)) (t : ByteArray) (hs : s.length ≤ 549755813888) (ht : t.size ≤ 549755813888) :
    Calls Tryz.prog 73 #[ptr b, .string t] w fun e w' => e = .returned (.tuple #[]) ∧ Own W w' (wrA b (s ++ encU t.size ++ t.data.toList) :: L) := by
  have key : ∀ w', Own W w' (wrA b (s ++ encU t.size) :: L) → ∃ A c A' c' w2, w'.cell? ⟨b, 0, none⟩ = some (.bool true) ∧ w'.cell? ⟨b, 1, none⟩ = some (.slice A (s ++ encU t.size).length c) ∧
      (appendSem #[24, 9] 24 #[.slice A (s ++ encU t.size).length c, .string t]).run Tryz.prog w' = .ok (.slice A' ((s ++ encU t.size).length + t.size) c') w2 ∧ (∃ v, w2.cell? ⟨b, 1, none⟩ = some v) ∧ w2.frozen? ⟨b, 1, none⟩ = false ∧
      Own W (w2.setCell ⟨b, 1, none⟩ (.slice A' ((s ++ encU t.size).length + t.size) c')) (wrA b (s ++ encU t.size ++ t.data.toList) :: L) := by
    intro w' H2
    have hlen : (s ++ encU t.size).length ≤ 549755813900 := by
      have := encN_len 9 t.size (by omega)
      simp [encU]; omega
    generalize s ++ encU t.size = u at *
    obtain ⟨v, H3⟩ := H2.wr_open
    obtain ⟨A, c, rfl, _⟩ := H3.front2.row_rd.form
    have hc := H3.cell
    obtain ⟨A', c', w2, hap, H4⟩ := H3.front2.append_str (t := 24) (u := 9) byteT.type (by kernel_rfl) Tryz.underlying9 24 t (by omega)
    have H5 := H4.front2
    have hc5 := H5.cell
    have hf5 := H5.free
    refine ⟨A, c, A', c', w2, hc 0, hc 1, hap, ⟨_, hc5 1⟩, hf5 1, ?_⟩
    have H6 := H5.set 1 (.slice A' (u.length + t.size) c')
    refine Own.wr_shut (v := .slice A' (u.length + t.size) c') ?_
    have e : (u ++ t.data.toList).length = u.length + t.size := by rw [List.length_append]; rfl
    rw [e, List.map_append]
    exact H6
  generalize s ++ encU t.size ++ t.data.toList = u2 at *
  go_enter Tryz.func73, Tryz.ntmps73
  go_wp2_with (go_at_call 156; refine (wrUint H t.size (by omega) (by omega)).mono ?_; rintro e w' ⟨rfl, H2⟩; obtain ⟨A, c, A', c', w2, h1, h2, h3, ⟨v4, h4⟩, h5, h6⟩ := key _ H2; clear key; generalize (s ++ encU t.size).length = nn at *)
  refine bodyPost_end (results_none rfl _ _ _) rfl ?_
  exact ⟨rfl, h6⟩
end Sk
