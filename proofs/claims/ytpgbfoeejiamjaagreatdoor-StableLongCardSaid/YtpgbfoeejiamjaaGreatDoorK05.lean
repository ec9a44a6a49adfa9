/- Package accept: acceptors. -/
import Derived.Test.YtpgbfoeejiamjaaGreatDoorK02
import Derived.Test.YtpgbfoeejiamjaaGreatDoorProg
import Derived.Test.YtpgbfoeejiamjaaGreatDoorK03
import Derived.Shelf.Strings.Builder1
import Derived.Shelf.Small.Bits
import Derived.Shelf.Strings.BuilderF
import Derived.Shelf.Strconv.Itoa0
import Derived.Shelf.Strings.Prefix
import Derived.Shelf.Bits.Mul64
import Derived.Shelf.Slices.Equal
import Derived.Ground.Names2Prog
import Derived.Shelf.Slices.SearchI
import Derived.Shelf.Slices.Empties
import Derived.Shelf.Slices.Empties2
import Derived.Ground.SlgmProg
import Derived.Shelf.SortM.Plain
import Derived.Shelf.SortM.SortNone
import Derived.Shelf.Bytes.SlEqualAll
import Derived.Shelf.Bytes.Small
set_option linter.all false
set_option linter.unusedVariables false
set_option linter.unusedSimpArgs false
set_option linter.unusedSectionVars false
namespace Sk
open Go Go.RowKit Go.Proofs
abbrev Str := ByteArray
structure Acc where
  n : Int
  prom : Bal
  ent : Int → Option (Bal × Str)
  base : Int
@[reducible] def entV (k : Int) (x : Bal × Str) : Value := .agg #[.int .i64 k, .int .i64 x.1.r, .int .i64 x.1.n, .string x.2]
def entM (m : Nat) (f : Int → Option (Bal × Str)) : Asn := mapA ik entV goodInt m f
@[reducible] def accCells (s : Acc) (m : Nat) : Obj := .cells #[.int .i64 s.n, .int .i64 s.prom.r, .int .i64 s.prom.n, .map (some m), .int .i64 s.base] 158
def accA (b : Nat) (s : Acc) : Asn := exi fun m => grp [blk b (accCells s m), entM m s.ent]
theorem entT : MapT Tryz.prog 156 3 92 ik goodInt (.agg #[.int .i64 0, .int .i64 0, .int .i64 0, .string ByteArray.empty]) where
  keyed := Maps.int_keyed Tryz.underlying3
  type := Tryz.underlying156
  zero := fun _ => by kernel_rfl
  inj := ik_inj
  key := fun k h => ⟨_, Maps.keyOf_int_mk Tryz.underlying3 h⟩
section
variable {W w : World} {L : List Asn} {b : Nat} {s : Acc}
theorem Own.acc_open (H : Own W w (accA b s :: L)) : ∃ m, Own W w (blk b (accCells s m) :: entM m s.ent :: L) := by
  obtain ⟨m, H⟩ := Own.exi_iff.1 H
  exact ⟨m, Own.grp_iff.1 H⟩
theorem Own.acc_shut {m : Nat} (H : Own W w (blk b (accCells s m) :: entM m s.ent :: L)) : Own W w (accA b s :: L) := Own.exi_iff.2 ⟨m, Own.grp_iff.2 H⟩
end
def Acc.good (s : Acc) (b : Bal) : Prop := b ≠ Bal.zero ∧ b.ok s.n
instance accGoodDec (s : Acc) (b : Bal) : Decidable (s.good b) := by unfold Acc.good; infer_instance
attribute [local go_sem ↓] run_eql_bal run_neq_bal
set_option maxHeartbeats 1000000 in
theorem accValid (b : Nat) (w : World) (n : Int) (h : w.cell? ⟨b, 0, none⟩ = some (.int .i64 n)) (hn : 0 < n) : Calls Tryz.prog 116 #[ptr b] w fun e w' => e = .returned (.bool true) ∧ w = w' := by
  go_enter Tryz.func116, Tryz.ntmps116
  go_wp2
  go_ret
  exact ⟨rfl, rfl⟩

set_option maxRecDepth 100000 in
set_option maxHeartbeats 1000000 in
theorem accGood (b : Nat) (w : World) (s : Acc) (x : Bal) (h : w.cell? ⟨b, 0, none⟩ = some (.int .i64 s.n)) : Calls Tryz.prog 117 #[ptr b, x.v] w fun e w' => e = .returned (.bool (decide (s.good x))) ∧ Bel w w' := by
  have hlt := World.block_lt_of_cell? _ _ h
  dsimp only at hlt
  have hlt1 : b < w.heap.size + 1 := by omega
  by_cases hz : x = Bal.zero
  · have hz' := balEq_yes hz
    dsimp only at hz'
    have HG := Lib.hid (show decide (s.good x) = false by simp [Acc.good, hz])
    clear hz
    go_enter Tryz.func117, Tryz.ntmps117
    go_wp2_with fail
    go_quiet (fail)
    go_wp2
    go_ret
    exact ⟨ret_bool HG.out, ((Bel.refl _).alloc _).drewN _⟩
  · have hz' := balEq_no hz
    dsimp only at hz'
    have HG := Lib.hid (show decide (s.good x) = (x.check s.n == 0) by by_cases hk : x.ok s.n <;> simp [Acc.good, hz, Bal.check, hk])
    clear hz
    go_enter Tryz.func117, Tryz.ntmps117
    go_wp2_with fail
    go_region_held3 (fun w' => ∀ g o, g < w.heap.size + 1 → w'.cell? ⟨g, o, none⟩ = (w.alloc (Obj.cells #[Value.int IntKind.i64 x.r, Value.int IntKind.i64 x.n] 23)).cell? ⟨g, o, none⟩) (first | go_keep | (intro g o hg; rw [hb.cell (by simp; omega)]; simp)) (first | (go_at_call 147; refine (balCheck x _ _).mono ?_; rintro e w1 ⟨rfl, hb⟩))
    go_wp2
    go_ret
    exact ⟨ret_bool HG.out, ((Bel.refl _).alloc _).drew.trans hb⟩
def Acc.accept (s : Acc) (x : Bal) (slot : Int) (v : Str) : Int × Acc :=
  if ¬ s.good x ∨ slot < 0 ∨ 4096 ≤ slot then (2, s) else if 65536 < v.size then (11, s) else if x.order s.prom < 0 then (8, s) else if slot < s.base then (3, s) else
    (0, { s with prom := x, ent := fset s.ent slot (some (x, v)) })
set_option maxRecDepth 100000 in
set_option maxHeartbeats 4000000 in
theorem accAccept {W w : World} {L : List Asn} {b : Nat} {s : Acc} (H : Own W w (accA b s :: L)) (x : Bal) (slot : Int) (v : Str) (hn : 0 < s.n) :
    Calls Tryz.prog 37 #[ptr b, x.v, .int .i64 slot, .string v] w fun e w' => e = .returned (ei (s.accept x slot v).1) ∧ Own W w' (accA b (s.accept x slot v).2 :: L) := by
  obtain ⟨m, H0⟩ := H.acc_open
  have hc := H0.cell
  have hf := H0.free
  have hlt := H0.lt
  have hlt1 : b < w.heap.size + 1 := by omega
  clear H
  by_cases h1 : ¬ s.good x ∨ slot < 0 ∨ 4096 ≤ slot
  · rw [show s.accept x slot v = (2, s) from if_pos h1]
    by_cases hg : s.good x
    · have hg' := decide_eq_true hg
      have h2 : slot < 0 ∨ 4096 ≤ slot := by simpa [hg] using h1
      clear h1 hg
      go_enter Tryz.func37, Tryz.ntmps37
      go_wp2_with (first | (go_at_call 116; go_in) | (go_at_call 117; refine (accGood b _ s x (by go_simp)).mono ?_; rintro e w1 ⟨rfl, hb⟩; have hr := hb.rule; obtain ⟨hl1, hl2⟩ : b < w1.heap.size ∧ w.heap.size < w1.heap.size := by (have hl := hb.size; simp at hl; omega)))
      all_goals (go_ret; exact ⟨ret_ei rfl, ((H0.skip _).grown hb).acc_shut⟩)
    · have hg' := decide_eq_false hg
      clear h1 hg
      go_enter Tryz.func37, Tryz.ntmps37
      go_wp2_with (first | (go_at_call 116; go_in) | (go_at_call 117; refine (accGood b _ s x (by go_simp)).mono ?_; rintro e w1 ⟨rfl, hb⟩; have hr := hb.rule; obtain ⟨hl1, hl2⟩ : b < w1.heap.size ∧ w.heap.size < w1.heap.size := by (have hl := hb.size; simp at hl; omega)))
      all_goals (go_ret; exact ⟨ret_ei rfl, ((H0.skip _).grown hb).acc_shut⟩)
  · have hg' : decide (s.good x) = true := decide_eq_true (Classical.not_not.1 fun h => h1 (.inl h))
    have hs0 : 0 ≤ slot := by omega
    have hs1 : slot < 4096 := by omega
    by_cases h2 : 65536 < v.size
    · rw [show s.accept x slot v = (11, s) by unfold Acc.accept; rw [if_neg h1, if_pos h2]]
      clear h1
      go_enter Tryz.func37, Tryz.ntmps37
      go_wp2_with (first | (go_at_call 116; go_in) | (go_at_call 117; refine (accGood b _ s x (by go_simp)).mono ?_; rintro e w1 ⟨rfl, hb⟩; have hr := hb.rule; obtain ⟨hl1, hl2⟩ : b < w1.heap.size ∧ w.heap.size < w1.heap.size := by (have hl := hb.size; simp at hl; omega)))
      all_goals (go_ret; exact ⟨ret_ei rfl, ((H0.skip _).grown hb).acc_shut⟩)
    · by_cases h3 : x.order s.prom < 0
      · rw [show s.accept x slot v = (8, s) by unfold Acc.accept; rw [if_neg h1, if_neg h2, if_pos h3]]
        clear h1
        go_enter Tryz.func37, Tryz.ntmps37
        go_wp2_with (first | (go_at_call 116; go_in) | (go_at_call 117; refine (accGood b _ s x (by go_simp)).mono ?_; rintro e w1 ⟨rfl, hb⟩; have hr := hb.rule; obtain ⟨hl1, hl2⟩ : b < w1.heap.size ∧ w.heap.size < w1.heap.size := by (have hl := hb.size; simp at hl; omega)))
        go_region_held3 (fun w' => ∀ g o, g < w1.heap.size → w'.cell? ⟨g, o, none⟩ = w1.cell? ⟨g, o, none⟩) (first | go_keep | (intro g o hg; rw [hb2.cell hg]; rfl)) (first | (go_at_call 118; refine (balOrder x s.prom _).mono ?_; rintro e w2 ⟨rfl, hb2⟩))
        go_wp2_with fail
        go_ret
        exact ⟨ret_ei rfl, (((H0.skip _).grown hb).drew.grown hb2).acc_shut⟩
      · by_cases h4 : slot < s.base
        · rw [show s.accept x slot v = (3, s) by unfold Acc.accept; rw [if_neg h1, if_neg h2, if_neg h3, if_pos h4]]
          clear h1
          go_enter Tryz.func37, Tryz.ntmps37
          go_wp2_with (first | (go_at_call 116; go_in) | (go_at_call 117; refine (accGood b _ s x (by go_simp)).mono ?_; rintro e w1 ⟨rfl, hb⟩; have hr := hb.rule; obtain ⟨hl1, hl2⟩ : b < w1.heap.size ∧ w.heap.size < w1.heap.size := by (have hl := hb.size; simp at hl; omega)))
          go_region_held3 (fun w' => ∀ g o, g < w1.heap.size → w'.cell? ⟨g, o, none⟩ = w1.cell? ⟨g, o, none⟩) (first | go_keep | (intro g o hg; rw [hb2.cell hg]; rfl)) (first | (go_at_call 118; refine (balOrder x s.prom _).mono ?_; rintro e w2 ⟨rfl, hb2⟩))
          go_wp2_with fail
          go_ret
          exact ⟨ret_ei rfl, (((H0.skip _).grown hb).drew.grown hb2).acc_shut⟩
        · rw [show s.accept x slot v = (0, { s with prom := x, ent := fset s.ent slot (some (x, v)) }) by unfold Acc.accept; rw [if_neg h1, if_neg h2, if_neg h3, if_neg h4]]
          clear h1
          go_enter Tryz.func37, Tryz.ntmps37
          go_wp2_with (first | (go_at_call 116; go_in) | (go_at_call 117; refine (accGood b _ s x (by go_simp)).mono ?_; rintro e w1 ⟨rfl, hb⟩; have hr := hb.rule; obtain ⟨hl1, hl2⟩ : b < w1.heap.size ∧ w.heap.size < w1.heap.size := by (have hl := hb.size; simp at hl; omega)))
          go_region_held3 (fun w' => ∀ g o, g < w1.heap.size → w'.cell? ⟨g, o, none⟩ = w1.cell? ⟨g, o, none⟩) (first | go_keep | (intro g o hg; rw [hb2.cell hg]; rfl)) (first | (go_at_call 118; refine (balOrder x s.prom _).mono ?_; rintro e w2 ⟨rfl, hb2⟩))
          have H2 := ((H0.skip (Obj.cells #[Value.int IntKind.i64 x.r, Value.int IntKind.i64 x.n] 23)).grown hb).drew.grown hb2
          have hf2 := H2.free
          go_wp2_with fail
          have H3 := ((H2.set 1 (.int .i64 x.r)).set 2 (.int .i64 x.n)).drew
          obtain ⟨w3, hst, H4⟩ := H3.front2.store entT (goodInt_of (k := slot) (by omega) (by omega)) (x, v)
          (refine wp_still_tail 9 (by kernel_rfl) (by kernel_rfl) ?_; simp only [List.take_succ_cons, List.take_zero, List.drop_succ_cons, List.drop_zero]; (repeat still_step); refine wpStill_nil ?_)
          go_wp2_with fail

          go_ret
          exact ⟨ret_ei rfl, H4.front2.acc_shut⟩
end Sk
/- The keys of the entries: maps.Keys, slices.Collect. -/
namespace Sk
open Go Go.RowKit Go.Proofs
attribute [local go_sem] Oper.semAt_some
attribute [local go_sem ↓] append_hide
set_option maxHeartbeats 1000000 in
theorem keysC (m : Nat) (w : World) : Calls Tryz.prog 177 #[.map (some m)] w fun e w' => e = .returned (.func (.func 209) #[] #[ptr w.heap.size]) ∧ w.alloc (.cells #[.map (some m)] 156) = w' := by
  go_enter Tryz.func177, Tryz.ntmps177
  go_wp2
  go_ret
  exact ⟨rfl, rfl⟩
set_option maxRecDepth 100000 in
set_option maxHeartbeats 1000000 in
theorem keys1 {W : World} (m l bx b : Nat) {f : Int → Option (Bal × Str)} (J Jx : List Int → Asn)
    (hY : ∀ (pre : List Int) (k : Int) (w' : World) (R : List Asn), (pre ++ [k]).Nodup → (∀ i ∈ pre ++ [k], f i ≠ none) → Own W w' (J pre :: R) → YieldAt FW m Tryz.prog l #[ik k] w' fun e w'' =>
      (e = .returned (.bool true) ∧ Own W w'' (J (pre ++ [k]) :: R)) ∨ (e = .returned (.bool false) ∧ Own W w'' (Jx (pre ++ [k]) :: R)))
    (w : World) {L : List Asn} (H : Own W w (J [] :: blk bx (.cells #[.map (some b)] 156) :: entM b f :: L)) :
    CallsIn FW (m + 1) Tryz.prog 209 #[.func (.yield l) #[] #[], ptr bx] w fun e w' => (∃ v, e = .returned v) ∧
      ((∃ ks : List Int, ks.Nodup ∧ (∀ k, k ∈ ks ↔ f k ≠ none) ∧ Own W w' (J ks :: entM b f :: L)) ∨ ∃ pre, Own W w' (Jx pre :: entM b f :: L)) := by
  have hb := H.front2.cell
  obtain ⟨left, w1, hleft, hrun, H1⟩ := H.front3.range entT
  refine callsIn_of_wp Tryz.func209 rfl trivial ?_ rfl
  simp only [Tryz.ntmps209, List.size_toArray, List.length_cons, List.length_nil, Nat.reduceAdd, Nat.reduceSub, Array.replicate_succ, Array.replicate_zero, List.push_toArray, List.append_toArray, List.nil_append, List.cons_append]
  gi_wp2_with fail
  gi_loopw [6] (fun _ wr => ∃ (pre left : List Int), pre.Nodup ∧ (∀ k ∈ pre, f k ≠ none) ∧ (∀ k, f k ≠ none → (k ∈ left ↔ k ∉ pre)) ∧ (∀ k ∈ left, f k ≠ none) ∧ Own W wr (rngA ik entV goodInt w.heap.size b f left :: J pre :: blk bx (.cells #[.map (some b)] 156) :: L)) (fun _ wr => leftN wr w.heap.size)
  case atStart =>
    refine ⟨[], left, List.nodup_nil, by simp, fun k hk => by simp [hleft, hk], fun k hk => (hleft k).1 hk, H1⟩
  case round =>
    obtain ⟨pre, left, hn, hp, hl, hl2, HH⟩ := hrel
    have hlen := HH.rng_len entT
    rcases HH.next entT 0 with ⟨rfl, hnx⟩ | ⟨k, v, w2, hk, hf, hnx, hen, hsz, H2⟩
    · have hlk : ∀ k, k ∈ pre ↔ f k ≠ none := fun k => ⟨hp k, fun h => by have := hl k h; simpa using this⟩
      clear hl hl2 hp hlen
      have HN := Lib.hid hn
      have HK := Lib.hid hlk
      clear hn hlk
      gi_wp2_with fail
      refine bodyPost_end (results_none rfl _ _ _) rfl ?_
      exact ⟨⟨_, rfl⟩, .inl ⟨pre, HN.out, HK.out, (HH.rng_end.sel [1, 0, 2]).drop3⟩⟩
    · have hfk : f k ≠ none := by rw [hf]; simp
      have hkp := (hl k hfk).1 hk
      have hn' : (pre ++ [k]).Nodup := by
        rw [List.nodup_append]
        exact ⟨hn, by simp, fun a ha c hc => by simp at hc; subst hc; rintro rfl; exact hkp ha⟩
      have hp' : ∀ i ∈ pre ++ [k], f i ≠ none := fun i hi => by
        rcases List.mem_append.1 hi with h | h
        · exact hp i h
        · simp at h; subst h; exact hfk
      have hlen2 := H2.rng_len entT
      have hle : (left.erase k).length < left.length := by rw [List.length_erase_of_mem hk]; have := List.length_pos_of_mem hk; omega
      have hlt := HH.front2
      obtain ⟨fn, tmps, assign, body, hy, hR⟩ := hY pre k w2 _ hn' hp' H2.front2
      have hnd : left.Nodup := by obtain ⟨_, _, _, _, _, _, _, _, _, _, h, _⟩ := HH.rng_open; exact h
      have hl' : ∀ i, f i ≠ none → (i ∈ left.erase k ↔ i ∉ pre ++ [k]) := fun i hi => by
        rw [List.Nodup.mem_erase_iff hnd, hl i hi]; simp [and_comm]
      have HX := Lib.hid (show (pre ++ [k]).Nodup ∧ (∀ i ∈ pre ++ [k], f i ≠ none) ∧ (∀ i, f i ≠ none → (i ∈ left.erase k ↔ i ∉ pre ++ [k])) ∧ (∀ i ∈ left.erase k, f i ≠ none) ∧ leftN wr w.heap.size = left.length ∧ (left.erase k).length < left.length from ⟨hn', hp', hl', fun i hi => hl2 i (List.mem_of_mem_erase hi), hlen, hle⟩)
      have HR := Lib.hid hR
      clear hR hn hp hl hl2 hlen hlen2 hfk hkp hn' hp' hl' hle hf hk hnd hlt hrun hb
      gi_wp2_with fail
      refine HR.out.mono ?_
      rintro e W' (⟨rfl, H'⟩ | ⟨rfl, H'⟩)
      · gi_wp2_with fail
        have H3 := Own.front2 H'
        have hlen2 := H3.rng_len entT
        obtain ⟨a1, a2, a3, a4, a5, a6⟩ := HX.out
        exact ⟨⟨_, _, a1, a2, a3, a4, H3⟩, by rw [hlen2, a5]; exact a6⟩
      · gi_wp2_with fail
        refine bodyPost_ret (results_none rfl _ _ _) rfl ?_
        exact ⟨⟨_, rfl⟩, .inr ⟨_, ((Own.front2 H').rng_end.sel [1, 0]).drop3⟩⟩
end Sk
/- The keys of the entries, collected. -/
namespace Sk
open Go Go.RowKit Go.Proofs
attribute [local go_sem] Oper.semAt_some
attribute [local go_sem ↓] append_hide
theorem nodup_bound : ∀ (n : Nat) (ks : List Int), ks.Nodup → (∀ k ∈ ks, 0 ≤ k ∧ k < n) → ks.length ≤ n
  | 0, ks, _, h => by
    cases ks with
    | nil => simp
    | cons k ks => have := h k (by simp); omega
  | n + 1, ks, hn, h => by
    have hr := nodup_bound n (ks.erase (n : Int)) (hn.erase _) (fun k hk => by
      rw [List.Nodup.mem_erase_iff hn] at hk
      have := h k hk.2
      have h2 := hk.1
      omega)
    have := List.length_erase (a := (n : Int)) (l := ks)
    split at this <;> omega
theorem intT : SlT Tryz.prog 153 3 1 8 where
  type := Tryz.underlying153
  info := info_parts1 (z := .int .i64 0) (by kernel_rfl) rfl
  pos := by decide
/-- What keys were collected, in a variable. -/
def intsA (g : Nat) (pre : List Int) : Asn := exi fun v : Value => grp [blk g (.cells #[v] 153), rowA 3 1 v pre.length (pre.map ik)]
section
variable {W w : World} {L : List Asn} {g : Nat} {pre : List Int}
theorem Own.ints_open (H : Own W w (intsA g pre :: L)) : ∃ A c, Own W w (blk g (.cells #[.slice A pre.length c] 153) :: rowA 3 1 (.slice A pre.length c) pre.length (pre.map ik) :: L) := by
  obtain ⟨v, H⟩ := Own.exi_iff.1 H
  have H : Own W w (blk g (.cells #[v] 153) :: rowA 3 1 v pre.length (pre.map ik) :: L) := Own.grp_iff.1 H
  obtain ⟨A, c, rfl, _⟩ := H.front2.row_rd.form
  exact ⟨A, c, H⟩
theorem Own.ints_shut {v : Value} (H : Own W w (blk g (.cells #[v] 153) :: rowA 3 1 v pre.length (pre.map ik) :: L)) : Own W w (intsA g pre :: L) :=
  Own.exi_iff.2 ⟨v, Own.grp_iff.2 H⟩
end
def KeysPost (W : World) (L : List Asn) (f : Int → Option (Bal × Str)) (e : Ending) (w : World) : Prop :=
  ∃ (v : Value) (ks : List Int), e = .returned v ∧ ks.Nodup ∧ (∀ k, k ∈ ks ↔ f k ≠ none) ∧ Own W w (rowA 3 1 v ks.length (ks.map ik) :: L)
def gotK (g : Nat) (f : Int → Option (Bal × Str)) : Asn := exi fun ks : List Int => grp [pur (ks.Nodup ∧ ∀ k, k ∈ ks ↔ f k ≠ none), intsA g ks]
section
variable {W w : World} {L : List Asn} {g : Nat} {f : Int → Option (Bal × Str)} {ks : List Int}
theorem Own.gotK_shut (h : ks.Nodup ∧ ∀ k, k ∈ ks ↔ f k ≠ none) (H : Own W w (intsA g ks :: L)) : Own W w (gotK g f :: L) :=
  Own.exi_iff.2 ⟨ks, Own.grp_iff.2 (Own.pur_iff.2 ⟨h, H⟩)⟩
theorem Own.gotK_open (H : Own W w (gotK g f :: L)) : ∃ ks : List Int, (ks.Nodup ∧ ∀ k, k ∈ ks ↔ f k ≠ none) ∧ Own W w (intsA g ks :: L) := by
  obtain ⟨xs, H⟩ := Own.exi_iff.1 H
  exact ⟨xs, Own.pur_iff.1 (Own.grp_iff.1 H)⟩
end
set_option maxRecDepth 100000 in
set_option maxHeartbeats 1000000 in
theorem appendSeqI {W w : World} {L : List Asn} {bx b : Nat} {f : Int → Option (Bal × Str)} (H : Own W w (blk bx (.cells #[.map (some b)] 156) :: entM b f :: L)) (hf : ∀ k, f k ≠ none → 0 ≤ k ∧ k < 4096) :
    Calls Tryz.prog 226 #[.slice none 0 0, .func (.func 209) #[] #[ptr bx]] w (KeysPost W (entM b f :: L) f) := by
  refine (callsIn_wide (n := 5)).1 ?_
  refine callsIn_of_wp_marks Tryz.func226 rfl trivial ?_ rfl
  simp only [Tryz.ntmps226, List.size_toArray, List.length_cons, List.length_nil, Nat.reduceAdd, Nat.reduceSub, Array.replicate_succ, Array.replicate_zero, List.push_toArray, List.append_toArray, List.nil_append, List.cons_append]
  gi_wp2
  have H1 := H.alloc (.cells #[.slice none 0 0] 153)
  refine range_own (Ld := gotK w.heap.size f :: entM b f :: L) (Lx := fun _ => [pur False]) H1 rfl (enters_of Tryz.func209 (by kernel_rfl) rfl) ?iter ?done ?stop
  case iter =>
    intro r l D w1 R HI
    have HJ : Own W w1 (grp [blk l (.loop r), blk D (.deferred (some [])), intsA w.heap.size []] :: blk bx (.cells #[.map (some b)] 156) :: entM b f :: L) := by
      have h := Own.ints_shut (pre := []) (v := .slice none 0 0) ((HI.row_nil 3 1).sel [3, 0])
      exact Own.grp_iff.2 (h.sel [1, 2, 0, 3, 4])
    refine (keys1 3 l bx b (fun pre => grp [blk l (.loop r), blk D (.deferred (some [])), intsA w.heap.size pre]) (fun _ => pur False) ?_ w1 HJ).mono ?_
    · intro pre k w' RR hn hp H'
      have hpl : (pre ++ [k]).length ≤ 4096 := nodup_bound 4096 _ hn (fun i hi => hf i (hp i hi))
      rw [List.length_append, List.length_singleton] at hpl
      obtain ⟨A4, c4, H2⟩ := ((Own.grp_iff.1 H').sel [2, 0, 1]).ints_open
      have H3 := H2.sel [2, 0, 1, 3]
      have Y : YieldAt FW 3 Tryz.prog l #[ik k] w' (yielded' W l r (intsA w.heap.size (pre ++ [k]) :: blk D (.deferred (some [])) :: RR) (fun _ => [pur False])) := by
        refine round_is R H3 rfl ?_
        clear hn hp hf
        gi_wp2
        refine ⟨_, H3, fun w₂ H5 => ?_⟩
        have ha := H5.front2.cell
        obtain ⟨A', c', w3, hap, H7⟩ := ((Own.skip H5 (.cells #[ik k] 3)).sel [2]).append_eq (m := 1) intT 153 (rd_new w₂ #[ik k] 3 rfl (by decide)) (by simp [Value.oneCell']) (by unfold maxLen; omega) (by omega)
        have H8 := Own.sel H7 [2]
        have hc8 := H8.cell
        have hf8 := H8.free
        have H9 := H8.set 0 (.slice A' (pre.length + 1) c')
        gi_wp2
        refine Own.front2 (Own.ints_shut (pre := pre ++ [k]) (v := .slice A' (pre.length + 1) c') ?_)
        rw [List.length_append, List.map_append]
        exact H9
      exact Y.mono fun e w'' h => by
        rcases h with ⟨rfl, h⟩ | ⟨rfl, c, h⟩
        · exact .inl ⟨rfl, Own.grp_iff.2 (Own.sel h [0, 2, 1])⟩
        · exact ((Own.pur_iff.1 h.front2).1).elim
    · rintro e w2 ⟨hv, h⟩
      refine ⟨hv, ?_⟩
      rcases h with ⟨ks, h1, h2, h⟩ | ⟨_, h⟩
      · exact .inl ((Own.gotK_shut ⟨h1, h2⟩ (Own.sel (Own.grp_iff.1 h) [2])).sel [1, 2, 0])
      · exact ((Own.pur_iff.1 h).1).elim
  case done =>
    intro D w2 H2
    obtain ⟨ks, hks, H3⟩ := H2.front2.gotK_open
    obtain ⟨A4, c4, H4⟩ := H3.ints_open
    have hc4 := H4.cell
    have HK := Lib.hid hks
    clear hks hf
    gi_wp2_with fail
    gi_wp2
    refine ⟨by simp, .inl ⟨_, _, rfl, run_takeDeferred H2.has, ?_⟩⟩
    refine ⟨.slice A4 ks.length c4, by simp [results, Tryz.results226, go_sem], ?_⟩
    have H5 := ((H4.sel [2, 0]).putObj (.deferred none)).drop.drop
    exact ⟨_, ks, rfl, HK.out.1, HK.out.2, H5⟩
  case stop =>
    intro D c w2 H2
    exact ((Own.pur_iff.1 H2.front2).1).elim
set_option maxHeartbeats 1000000 in
theorem collectI {W w : World} {L : List Asn} {bx b : Nat} {f : Int → Option (Bal × Str)} (H : Own W w (blk bx (.cells #[.map (some b)] 156) :: entM b f :: L)) (hf : ∀ k, f k ≠ none → 0 ≤ k ∧ k < 4096) :
    Calls Tryz.prog 207 #[.func (.func 209) #[] #[ptr bx]] w (KeysPost W (entM b f :: L) f) := by
  have h := appendSeqI H hf
  clear hf
  go_enter Tryz.func207, Tryz.ntmps207
  go_wp2_with (go_at_call 226; refine h.mono ?_; rintro e w1 ⟨v, ks, rfl, hp⟩)
  go_ret
  exact ⟨v, ks, rfl, hp⟩
end Sk
/-
  DERIVED: THE SHELF's CONTRACTS AT THIS DUMP, IN PLAIN WORDS (tools/lay-plain.mjs out of 'TryzShelf.lean', which tools/lay-shelf.mjs wrote): THE SAME DECLARATIONS UNDER THE SAME NAMES: 'import', 'namespace', 'open', 'def', 'theorem' AND NOTHING ELSE: no command of the shelf's: FOR A HAND-IN. Each laying: the table of numbers ('.._ren') and one theorem, a field a fact of the dump's own or the kernel's comparison; each contract: ONE APPLICATION.
-/
namespace Go.Proofs
open Go.Shelf
def Tryz.lays170_ren : Go.Shelf.Ren := ⟨fun | 170 => 141 | n => n, fun | 70 => 179 | 3 => 3 | 0 => 0 | 72 => 181 | 37 => 24 | 5 => 5 | n => n, fun | n => n⟩
theorem Tryz.lays170 : Go.Proofs.Lays.n170 Tryz.prog Tryz.lays170_ren := {
  mixed := by kernel_rfl
  f170 := Tryz.func141.trans (congrArg some (by kernel_rfl))
  t0 := Tryz.underlying0
  a0 := Tryz.isAgg0
  z0 := Tryz.sizeOf0
  v0 := Tryz.zeroValue0
  t3 := Tryz.underlying3
  a3 := Tryz.isAgg3
  z3 := Tryz.sizeOf3
  v3 := Tryz.zeroValue3
  t37 := Tryz.underlying24
  a37 := Tryz.isAgg24
  z37 := Tryz.sizeOf24
  v37 := Tryz.zeroValue24
  t70 := Tryz.underlying179
  a70 := Tryz.isAgg179
  z70 := Tryz.sizeOf179
  v70 := Tryz.zeroValue179
  t72 := Tryz.underlying181
  a72 := Tryz.isAgg181
  z72 := Tryz.sizeOf181
  v72 := Tryz.zeroValue181 }
open Go.RowKit in
theorem Tryz.Builder_Len (B b : Nat) (bs : List Value) (w : World) (h : Lib.IsBuilder 181 5 B b bs w) :
    Calls Tryz.prog 141 #[.pointer (some ⟨b, 0, none⟩)] w fun e w' => e = .returned (.int .i64 bs.length) ∧ w' = w := Any.Builder_Len Tryz.lays170 B b bs w h
def Tryz.lays169_ren : Go.Shelf.Ren := ⟨fun | 169 => 142 | n => n, fun | 70 => 179 | 9 => 9 | 0 => 0 | 72 => 181 | 37 => 24 | 127 => 244 | 3 => 3 | 5 => 5 | n => n, fun | n => n⟩
theorem Tryz.lays169 : Go.Proofs.Lays.n169 Tryz.prog Tryz.lays169_ren := {
  mixed := by kernel_rfl
  f169 := Tryz.func142.trans (congrArg some (by kernel_rfl))
  t0 := Tryz.underlying0
  a0 := Tryz.isAgg0
  z0 := Tryz.sizeOf0
  v0 := Tryz.zeroValue0
  t3 := Tryz.underlying3
  a3 := Tryz.isAgg3
  z3 := Tryz.sizeOf3
  v3 := Tryz.zeroValue3
  t9 := Tryz.underlying9
  a9 := Tryz.isAgg9
  z9 := Tryz.sizeOf9
  v9 := Tryz.zeroValue9
  t37 := Tryz.underlying24
  a37 := Tryz.isAgg24
  z37 := Tryz.sizeOf24
  v37 := Tryz.zeroValue24
  t70 := Tryz.underlying179
  a70 := Tryz.isAgg179
  z70 := Tryz.sizeOf179
  v70 := Tryz.zeroValue179
  t72 := Tryz.underlying181
  a72 := Tryz.isAgg181
  z72 := Tryz.sizeOf181
  v72 := Tryz.zeroValue181
  t127 := Tryz.underlying244
  a127 := Tryz.isAgg244
  z127 := Tryz.sizeOf244
  v127 := Tryz.zeroValue244 }
theorem Tryz.Builder_Extra_169 : Builder.Extra Tryz.prog Tryz.lays169_ren := {
  sizeBuilder := by kernel_rfl
  liesBuilder := by kernel_rfl
  t5 := Tryz.underlying5
  a5 := Tryz.isAgg5
  z5 := Tryz.sizeOf5
  v5 := Tryz.zeroValue5
  infoByte := by kernel_rfl
  cellsByte := by kernel_rfl
  sizeByte := by kernel_rfl
  neB5 := by decide }
open Go.RowKit in
theorem Tryz.Builder_String (B b : Nat) (l : List UInt8) (w : World) (h : Lib.IsBuilder 181 5 B b (Lib.byteCells l) w) (h0 : l ≠ []) :
    Calls Tryz.prog 142 #[.pointer (some ⟨b, 0, none⟩)] w fun e w' => e = .returned (.string ⟨l.toArray⟩) ∧ Below B w w' := Any.Builder_String Tryz.lays169 Tryz.Builder_Extra_169 B b l w h h0
open Go.RowKit in
theorem Tryz.Builder_String_empty (B b : Nat) (w : World) (h : Lib.IsBuilder 181 5 B b [] w) (hBw : B ≤ w.heap.size) :
    Calls Tryz.prog 142 #[.pointer (some ⟨b, 0, none⟩)] w fun e w' => e = .returned (.string ⟨#[]⟩) ∧ Below B w w' := Any.Builder_String_empty Tryz.lays169 Tryz.Builder_Extra_169 B b w h hBw
open Go.RowKit in
theorem Tryz.Builder_String_any (B b : Nat) (l : List UInt8) (w : World) (h : Lib.IsBuilder 181 5 B b (Lib.byteCells l) w) (hBw : B ≤ w.heap.size) :
    Calls Tryz.prog 142 #[.pointer (some ⟨b, 0, none⟩)] w fun e w' => e = .returned (.string ⟨l.toArray⟩) ∧ Below B w w' := Any.Builder_String_any Tryz.lays169 Tryz.Builder_Extra_169 B b l w h hBw
def Tryz.lays128_ren : Go.Shelf.Ren := ⟨fun | 128 => 242 | n => n, fun | 51 => 231 | 3 => 3 | 4 => 4 | 46 => 175 | 5 => 5 | 9 => 9 | n => n, fun | n => n⟩
theorem Tryz.lays128 : Go.Proofs.Lays.n128 Tryz.prog Tryz.lays128_ren := {
  mixed := by kernel_rfl
  f128 := Tryz.func242.trans (congrArg some (by kernel_rfl))
  t3 := Tryz.underlying3
  a3 := Tryz.isAgg3
  z3 := Tryz.sizeOf3
  v3 := Tryz.zeroValue3
  t4 := Tryz.underlying4
  a4 := Tryz.isAgg4
  z4 := Tryz.sizeOf4
  v4 := Tryz.zeroValue4
  t5 := Tryz.underlying5
  a5 := Tryz.isAgg5
  z5 := Tryz.sizeOf5
  v5 := Tryz.zeroValue5
  t9 := Tryz.underlying9
  a9 := Tryz.isAgg9
  z9 := Tryz.sizeOf9
  v9 := Tryz.zeroValue9
  t46 := Tryz.underlying175
  a46 := Tryz.isAgg175
  z46 := Tryz.sizeOf175
  v46 := Tryz.zeroValue175
  t51 := Tryz.underlying231
  a51 := Tryz.isAgg231
  z51 := Tryz.sizeOf231
  v51 := Tryz.zeroValue231 }
theorem Tryz.bits_Len32 (x : Int) (w : World) (h0 : 0 ≤ x) (h1 : x ≤ 4294967295) :
    Calls Tryz.prog 242 #[.int .u32 x] w fun e w' => e = .returned (.int .i64 (Lib.bitLen x.toNat)) ∧ w' = w := Any.bits_Len32 Tryz.lays128 x w h0 h1
def Tryz.lays125_ren : Go.Shelf.Ren := ⟨fun | 125 => 228 | 128 => 242 | 129 => 243 | n => n, fun | 46 => 175 | 3 => 3 | 51 => 231 | 53 => 108 | 4 => 4 | 5 => 5 | 9 => 9 | n => n, fun | n => n⟩
theorem Tryz.lays125 : Go.Proofs.Lays.n125 Tryz.prog Tryz.lays125_ren := {
  mixed := by kernel_rfl
  f125 := Tryz.func228.trans (congrArg some (by kernel_rfl))
  f128 := Tryz.func242.trans (congrArg some (by kernel_rfl))
  f129 := Tryz.func243.trans (congrArg some (by kernel_rfl))
  t3 := Tryz.underlying3
  a3 := Tryz.isAgg3
  z3 := Tryz.sizeOf3
  v3 := Tryz.zeroValue3
  t4 := Tryz.underlying4
  a4 := Tryz.isAgg4
  z4 := Tryz.sizeOf4
  v4 := Tryz.zeroValue4
  t5 := Tryz.underlying5
  a5 := Tryz.isAgg5
  z5 := Tryz.sizeOf5
  v5 := Tryz.zeroValue5
  t9 := Tryz.underlying9
  a9 := Tryz.isAgg9
  z9 := Tryz.sizeOf9
  v9 := Tryz.zeroValue9
  t46 := Tryz.underlying175
  a46 := Tryz.isAgg175
  z46 := Tryz.sizeOf175
  v46 := Tryz.zeroValue175
  t51 := Tryz.underlying231
  a51 := Tryz.isAgg231
  z51 := Tryz.sizeOf231
  v51 := Tryz.zeroValue231
  t53 := Tryz.underlying108
  a53 := Tryz.isAgg108
  z53 := Tryz.sizeOf108
  v53 := Tryz.zeroValue108 }
theorem Tryz.bits_Len (x : Int) (w : World) (h0 : 0 ≤ x) (h1 : x ≤ 18446744073709551615) :
    Calls Tryz.prog 228 #[.int .u64 x] w fun e w' => e = .returned (.int .i64 (Lib.bitLen x.toNat)) ∧ w' = w := Any.bits_Len Tryz.lays125 x w h0 h1
open Go.RowKit in
theorem Tryz.Builder_Len_f (B b : Nat) (bs : List Value) (w : World) (h : Lib.IsBuilderF 181 5 B b bs w) :
    Calls Tryz.prog 141 #[.pointer (some ⟨b, 0, none⟩)] w fun e w' => e = .returned (.int .i64 bs.length) ∧ w' = w := Any.Builder_Len_f Tryz.lays170 B b bs w h
open Go.RowKit in
theorem Tryz.Builder_String_f (B b : Nat) (l : List UInt8) (w : World) (h : Lib.IsBuilderF 181 5 B b (Lib.byteCells l) w) (h0 : l ≠ []) :
    Calls Tryz.prog 142 #[.pointer (some ⟨b, 0, none⟩)] w fun e w' => e = .returned (.string ⟨l.toArray⟩) ∧ (Lib.IsBuilderF 181 5 B b (Lib.byteCells l) w' ∧ Below B w w') := Any.Builder_String_f Tryz.lays169 Tryz.Builder_Extra_169 B b l w h h0
open Go.RowKit in
theorem Tryz.Builder_String_empty_f (B b : Nat) (w : World) (h : Lib.IsBuilderF 181 5 B b [] w) (hBw : B ≤ w.heap.size) :
    Calls Tryz.prog 142 #[.pointer (some ⟨b, 0, none⟩)] w fun e w' => e = .returned (.string ⟨#[]⟩) ∧ (Lib.IsBuilderF 181 5 B b [] w' ∧ Below B w w') := Any.Builder_String_empty_f Tryz.lays169 Tryz.Builder_Extra_169 B b w h hBw
open Go.RowKit in
theorem Tryz.Builder_String_any_f (B b : Nat) (l : List UInt8) (w : World) (h : Lib.IsBuilderF 181 5 B b (Lib.byteCells l) w) (hBw : B ≤ w.heap.size) :
    Calls Tryz.prog 142 #[.pointer (some ⟨b, 0, none⟩)] w fun e w' => e = .returned (.string ⟨l.toArray⟩) ∧ (Lib.IsBuilderF 181 5 B b (Lib.byteCells l) w' ∧ Below B w w') := Any.Builder_String_any_f Tryz.lays169 Tryz.Builder_Extra_169 B b l w h hBw
def Tryz.lays129_ren : Go.Shelf.Ren := ⟨fun | 129 => 243 | n => n, fun | 53 => 108 | 3 => 3 | 4 => 4 | 46 => 175 | 5 => 5 | 9 => 9 | n => n, fun | n => n⟩
theorem Tryz.lays129 : Go.Proofs.Lays.n129 Tryz.prog Tryz.lays129_ren := {
  mixed := by kernel_rfl
  f129 := Tryz.func243.trans (congrArg some (by kernel_rfl))
  t3 := Tryz.underlying3
  a3 := Tryz.isAgg3
  z3 := Tryz.sizeOf3
  v3 := Tryz.zeroValue3
  t4 := Tryz.underlying4
  a4 := Tryz.isAgg4
  z4 := Tryz.sizeOf4
  v4 := Tryz.zeroValue4
  t5 := Tryz.underlying5
  a5 := Tryz.isAgg5
  z5 := Tryz.sizeOf5
  v5 := Tryz.zeroValue5
  t9 := Tryz.underlying9
  a9 := Tryz.isAgg9
  z9 := Tryz.sizeOf9
  v9 := Tryz.zeroValue9
  t46 := Tryz.underlying175
  a46 := Tryz.isAgg175
  z46 := Tryz.sizeOf175
  v46 := Tryz.zeroValue175
  t53 := Tryz.underlying108
  a53 := Tryz.isAgg108
  z53 := Tryz.sizeOf108
  v53 := Tryz.zeroValue108 }
theorem Tryz.bits_Len64 (x : Int) (w : World) (h0 : 0 ≤ x) (h1 : x ≤ 18446744073709551615) :
    Calls Tryz.prog 243 #[.int .u64 x] w fun e w' => e = .returned (.int .i64 (Lib.bitLen x.toNat)) ∧ w' = w := Any.bits_Len64 Tryz.lays129 x w h0 h1
def Tryz.lays206_ren : Go.Shelf.Ren := ⟨fun | 206 => 194 | n => n, fun | 9 => 9 | 4 => 4 | 3 => 3 | n => n, fun | n => n⟩
theorem Tryz.lays206 : Go.Proofs.Lays.n206 Tryz.prog Tryz.lays206_ren := {
  mixed := by kernel_rfl
  f206 := Tryz.func194.trans (congrArg some (by kernel_rfl))
  t3 := Tryz.underlying3
  a3 := Tryz.isAgg3
  z3 := Tryz.sizeOf3
  v3 := Tryz.zeroValue3
  t4 := Tryz.underlying4
  a4 := Tryz.isAgg4
  z4 := Tryz.sizeOf4
  v4 := Tryz.zeroValue4
  t9 := Tryz.underlying9
  a9 := Tryz.isAgg9
  z9 := Tryz.sizeOf9
  v9 := Tryz.zeroValue9 }
open Go.RowKit Go.Lib in
theorem Tryz.stringslite_HasPrefix (s p : ByteArray) (w : World) :
    Calls Tryz.prog 194 #[.string s, .string p] w fun e w' => e = .returned (.bool (Lib.hasPrefix s.data.toList p.data.toList)) ∧ w' = w := Any.stringslite_HasPrefix Tryz.lays206 s p w
def Tryz.lays99_ren : Go.Shelf.Ren := ⟨fun | 99 => 138 | 206 => 194 | n => n, fun | 9 => 9 | 4 => 4 | 3 => 3 | n => n, fun | n => n⟩
theorem Tryz.lays99 : Go.Proofs.Lays.n99 Tryz.prog Tryz.lays99_ren := {
  mixed := by kernel_rfl
  f99 := Tryz.func138.trans (congrArg some (by kernel_rfl))
  f206 := Tryz.func194.trans (congrArg some (by kernel_rfl))
  t3 := Tryz.underlying3
  a3 := Tryz.isAgg3
  z3 := Tryz.sizeOf3
  v3 := Tryz.zeroValue3
  t4 := Tryz.underlying4
  a4 := Tryz.isAgg4
  z4 := Tryz.sizeOf4
  v4 := Tryz.zeroValue4
  t9 := Tryz.underlying9
  a9 := Tryz.isAgg9
  z9 := Tryz.sizeOf9
  v9 := Tryz.zeroValue9 }
open Go.RowKit Go.Lib in
theorem Tryz.strings_HasPrefix (s p : ByteArray) (w : World) :
    Calls Tryz.prog 138 #[.string s, .string p] w fun e w' => e = .returned (.bool (Lib.hasPrefix s.data.toList p.data.toList)) ∧ w' = w := Any.strings_HasPrefix Tryz.lays99 s p w
def Tryz.lays264_ren : Go.Shelf.Ren := ⟨fun | 264 => 193 | n => n, fun | 53 => 108 | 46 => 175 | n => n, fun | n => n⟩
theorem Tryz.lays264 : Go.Proofs.Lays.n264 Tryz.prog Tryz.lays264_ren := {
  mixed := by kernel_rfl
  f264 := Tryz.func193.trans (congrArg some (by kernel_rfl))
  t46 := Tryz.underlying175
  a46 := Tryz.isAgg175
  z46 := Tryz.sizeOf175
  v46 := Tryz.zeroValue175
  t53 := Tryz.underlying108
  a53 := Tryz.isAgg108
  z53 := Tryz.sizeOf108
  v53 := Tryz.zeroValue108 }
open Go.RowKit Go.Lib in
theorem Tryz.bits_Mul64 (x y : Nat) (hx : x < 18446744073709551616) (hy : y < 18446744073709551616) (w : World) :
    Calls Tryz.prog 193 #[.int .u64 x, .int .u64 y] w fun e w' => e = .returned (.tuple #[.int .u64 ((x * y / 18446744073709551616 : Nat) : Int), .int .u64 ((x * y % 18446744073709551616 : Nat) : Int)]) ∧ w' = w := Any.bits_Mul64 Tryz.lays264 x y hx hy w
def Tryz.lays212_ren : Go.Shelf.Ren := ⟨fun | 212 => 137 | 263 => 192 | 264 => 193 | n => n, fun | 46 => 175 | 51 => 231 | 146 => 240 | 53 => 108 | 148 => 242 | n => n, fun | n => n⟩
theorem Tryz.lays212 : Go.Proofs.Lays.n212 Tryz.prog Tryz.lays212_ren := {
  mixed := by kernel_rfl
  f212 := Tryz.func137.trans (congrArg some (by kernel_rfl))
  f263 := Tryz.func192.trans (congrArg some (by kernel_rfl))
  f264 := Tryz.func193.trans (congrArg some (by kernel_rfl))
  t46 := Tryz.underlying175
  a46 := Tryz.isAgg175
  z46 := Tryz.sizeOf175
  v46 := Tryz.zeroValue175
  t51 := Tryz.underlying231
  a51 := Tryz.isAgg231
  z51 := Tryz.sizeOf231
  v51 := Tryz.zeroValue231
  t53 := Tryz.underlying108
  a53 := Tryz.isAgg108
  z53 := Tryz.sizeOf108
  v53 := Tryz.zeroValue108
  t146 := Tryz.underlying240
  a146 := Tryz.isAgg240
  z146 := Tryz.sizeOf240
  v146 := Tryz.zeroValue240
  t148 := Tryz.underlying242
  a148 := Tryz.isAgg242
  z148 := Tryz.sizeOf242
  v148 := Tryz.zeroValue242 }
open Go.RowKit Go.Lib in
theorem Tryz.bits_Mul (x y : Nat) (hx : x < 18446744073709551616) (hy : y < 18446744073709551616) (w : World) :
    Calls Tryz.prog 137 #[.int .u64 x, .int .u64 y] w fun e w' => e = .returned (.tuple #[.int .u64 ((x * y / 18446744073709551616 : Nat) : Int), .int .u64 ((x * y % 18446744073709551616 : Nat) : Int)]) ∧ w' = w := Any.bits_Mul Tryz.lays212 x y hx hy w
def Tryz.lays111_ren : Go.Shelf.Ren := ⟨fun | 111 => 113 | n => n, fun | 28 => 153 | 3 => 3 | 4 => 4 | 0 => 0 | n => n, fun | n => n⟩
theorem Tryz.lays111 : Go.Proofs.Lays.n111 Tryz.prog Tryz.lays111_ren := {
  mixed := by kernel_rfl
  f111 := Tryz.func113.trans (congrArg some (by kernel_rfl))
  t0 := Tryz.underlying0
  a0 := Tryz.isAgg0
  z0 := Tryz.sizeOf0
  v0 := Tryz.zeroValue0
  t3 := Tryz.underlying3
  a3 := Tryz.isAgg3
  z3 := Tryz.sizeOf3
  v3 := Tryz.zeroValue3
  t4 := Tryz.underlying4
  a4 := Tryz.isAgg4
  z4 := Tryz.sizeOf4
  v4 := Tryz.zeroValue4
  t28 := Tryz.underlying153
  a28 := Tryz.isAgg153
  z28 := Tryz.sizeOf153
  v28 := Tryz.zeroValue153 }
open Go.RowKit Go.Lib in
theorem Tryz.slices_Equal_int (b1 o1 n c b2 o2 m d : Nat) (xs ys : List Int) (w : World) (hx : n ≤ xs.length) (hy : m ≤ ys.length) (hbig : n ≤ 9223372036854775807) (hbig2 : m ≤ 9223372036854775807) (hc1 : ∀ j, j < xs.length → w.cell? ⟨b1, o1 + j, none⟩ = some (.int .i64 (xs.getD j 0))) (hc2 : ∀ j, j < ys.length → w.cell? ⟨b2, o2 + j, none⟩ = some (.int .i64 (ys.getD j 0))) :
    Calls Tryz.prog 113 #[.slice (some ⟨b1, o1, none⟩) n c, .slice (some ⟨b2, o2, none⟩) m d] w fun e w' => e = .returned (.bool (xs.take n == ys.take m)) ∧ ∃ q, w' = w.drewN q := Any.slices_Equal_int Tryz.lays111 b1 o1 n c b2 o2 m d xs ys w hx hy hbig hbig2 hc1 hc2
open Go.RowKit Go.Lib in
theorem Tryz.slices_Equal_int_empty (a1 a2 : Option Addr) (c m d : Nat) (w : World) (hbig2 : m ≤ 9223372036854775807) :
    Calls Tryz.prog 113 #[.slice a1 0 c, .slice a2 m d] w fun e w' => e = .returned (.bool (decide (m = 0))) ∧ w' = w := Any.slices_Equal_int_empty Tryz.lays111 a1 a2 c m d w hbig2
def Tryz.lays193_ren : Go.Shelf.Ren := ⟨fun | 193 => 110 | n => n, fun | 31 => 150 | 9 => 9 | 4 => 4 | 3 => 3 | 0 => 0 | n => n, fun | n => n⟩
theorem Tryz.lays193 : Go.Proofs.Lays.n193 Tryz.prog Tryz.lays193_ren := {
  mixed := by kernel_rfl
  f193 := Tryz.func110.trans (congrArg some (by kernel_rfl))
  t0 := Tryz.underlying0
  a0 := Tryz.isAgg0
  z0 := Tryz.sizeOf0
  v0 := Tryz.zeroValue0
  t3 := Tryz.underlying3
  a3 := Tryz.isAgg3
  z3 := Tryz.sizeOf3
  v3 := Tryz.zeroValue3
  t4 := Tryz.underlying4
  a4 := Tryz.isAgg4
  z4 := Tryz.sizeOf4
  v4 := Tryz.zeroValue4
  t9 := Tryz.underlying9
  a9 := Tryz.isAgg9
  z9 := Tryz.sizeOf9
  v9 := Tryz.zeroValue9
  t31 := Tryz.underlying150
  a31 := Tryz.isAgg150
  z31 := Tryz.sizeOf150
  v31 := Tryz.zeroValue150 }
open Go.RowKit Go.Lib in
theorem Tryz.slices_Equal_string (b1 o1 n c b2 o2 m d : Nat) (xs ys : List ByteArray) (w : World) (hx : n ≤ xs.length) (hy : m ≤ ys.length) (hbig : n ≤ 9223372036854775807) (hbig2 : m ≤ 9223372036854775807) (hc1 : ∀ j, j < xs.length → w.cell? ⟨b1, o1 + j, none⟩ = some (.string (xs.getD j ByteArray.empty))) (hc2 : ∀ j, j < ys.length → w.cell? ⟨b2, o2 + j, none⟩ = some (.string (ys.getD j ByteArray.empty))) :
    Calls Tryz.prog 110 #[.slice (some ⟨b1, o1, none⟩) n c, .slice (some ⟨b2, o2, none⟩) m d] w fun e w' => e = .returned (.bool (decide (xs.take n = ys.take m))) ∧ ∃ q, w' = w.drewN q := Any.slices_Equal_string Tryz.lays193 b1 o1 n c b2 o2 m d xs ys w hx hy hbig hbig2 hc1 hc2
open Go.RowKit Go.Lib in
theorem Tryz.slices_Equal_string_empty (a1 a2 : Option Addr) (c m d : Nat) (w : World) (hbig2 : m ≤ 9223372036854775807) :
    Calls Tryz.prog 110 #[.slice a1 0 c, .slice a2 m d] w fun e w' => e = .returned (.bool (decide (m = 0))) ∧ w' = w := Any.slices_Equal_string_empty Tryz.lays193 a1 a2 c m d w hbig2
def Tryz.laysNm237_ren : Go.Shelf.Ren := ⟨fun | 37 => 213 | n => n, fun | 3 => 3 | 4 => 4 | n => n, fun | n => n⟩
theorem Tryz.laysNm237 : Go.Proofs.Lays2.n37 Tryz.prog Tryz.laysNm237_ren := {
  mixed := by kernel_rfl
  f37 := Tryz.func213.trans (congrArg some (by kernel_rfl))
  t3 := Tryz.underlying3
  a3 := Tryz.isAgg3
  z3 := Tryz.sizeOf3
  v3 := Tryz.zeroValue3
  t4 := Tryz.underlying4
  a4 := Tryz.isAgg4
  z4 := Tryz.sizeOf4
  v4 := Tryz.zeroValue4 }
open Go.RowKit Go.Lib in
theorem Tryz.cmp_isNaN_int2 (x : Int) (w : World) :
    Calls Tryz.prog 213 #[.int .i64 x] w fun e w' => e = .returned (.bool false) ∧ w' = w := Any.cmp_isNaN_int2 Tryz.laysNm237 x w
def Tryz.laysNm232_ren : Go.Shelf.Ren := ⟨fun | 32 => 211 | n => n, fun | 3 => 3 | 4 => 4 | n => n, fun | n => n⟩
theorem Tryz.laysNm232 : Go.Proofs.Lays2.n32 Tryz.prog Tryz.laysNm232_ren := {
  mixed := by kernel_rfl
  f32 := Tryz.func211.trans (congrArg some (by kernel_rfl))
  t3 := Tryz.underlying3
  a3 := Tryz.isAgg3
  z3 := Tryz.sizeOf3
  v3 := Tryz.zeroValue3
  t4 := Tryz.underlying4
  a4 := Tryz.isAgg4
  z4 := Tryz.sizeOf4
  v4 := Tryz.zeroValue4 }
open Go.RowKit Go.Lib in
theorem Tryz.slices_isNaN_int2 (x : Int) (w : World) :
    Calls Tryz.prog 211 #[.int .i64 x] w fun e w' => e = .returned (.bool false) ∧ w' = w := Any.slices_isNaN_int2 Tryz.laysNm232 x w
def Tryz.laysNm231_ren : Go.Shelf.Ren := ⟨fun | 31 => 210 | 37 => 213 | n => n, fun | 3 => 3 | 4 => 4 | n => n, fun | n => n⟩
theorem Tryz.laysNm231 : Go.Proofs.Lays2.n31 Tryz.prog Tryz.laysNm231_ren := {
  mixed := by kernel_rfl
  f31 := Tryz.func210.trans (congrArg some (by kernel_rfl))
  f37 := Tryz.func213.trans (congrArg some (by kernel_rfl))
  t3 := Tryz.underlying3
  a3 := Tryz.isAgg3
  z3 := Tryz.sizeOf3
  v3 := Tryz.zeroValue3
  t4 := Tryz.underlying4
  a4 := Tryz.isAgg4
  z4 := Tryz.sizeOf4
  v4 := Tryz.zeroValue4 }
open Go.RowKit Go.Lib in
theorem Tryz.cmp_Less_int2 (x y : Int) (w : World) :
    Calls Tryz.prog 210 #[.int .i64 x, .int .i64 y] w fun e w' => e = .returned (.bool (decide (x < y))) ∧ w' = w := Any.cmp_Less_int2 Tryz.laysNm231 x y w
def Tryz.laysNm225_ren : Go.Shelf.Ren := ⟨fun | 25 => 178 | 31 => 210 | 32 => 211 | 37 => 213 | n => n, fun | 22 => 153 | 3 => 3 | 4 => 4 | 40 => 175 | 0 => 0 | n => n, fun | n => n⟩
theorem Tryz.laysNm225 : Go.Proofs.Lays2.n25 Tryz.prog Tryz.laysNm225_ren := {
  mixed := by kernel_rfl
  f25 := Tryz.func178.trans (congrArg some (by kernel_rfl))
  f31 := Tryz.func210.trans (congrArg some (by kernel_rfl))
  f32 := Tryz.func211.trans (congrArg some (by kernel_rfl))
  f37 := Tryz.func213.trans (congrArg some (by kernel_rfl))
  t0 := Tryz.underlying0
  a0 := Tryz.isAgg0
  z0 := Tryz.sizeOf0
  v0 := Tryz.zeroValue0
  t3 := Tryz.underlying3
  a3 := Tryz.isAgg3
  z3 := Tryz.sizeOf3
  v3 := Tryz.zeroValue3
  t4 := Tryz.underlying4
  a4 := Tryz.isAgg4
  z4 := Tryz.sizeOf4
  v4 := Tryz.zeroValue4
  t22 := Tryz.underlying153
  a22 := Tryz.isAgg153
  z22 := Tryz.sizeOf153
  v22 := Tryz.zeroValue153
  t40 := Tryz.underlying175
  a40 := Tryz.isAgg175
  z40 := Tryz.sizeOf175
  v40 := Tryz.zeroValue175 }
open Go.RowKit Go.Lib in
theorem Tryz.slices_BinarySearch_int (b off n c : Nat) (zs : List Int) (x : Int) (w : World) (hz : n ≤ zs.length) (hbig : n < 4611686018427387904) (hc : ∀ j, j < zs.length → w.cell? ⟨b, off + j, none⟩ = some (.int .i64 (zs.getD j 0))) (hs : (zs.take n).Pairwise (· ≤ ·)) :
    Calls Tryz.prog 178 #[.slice (some ⟨b, off, none⟩) n c, .int .i64 x] w fun e w' => e = .returned (.tuple #[.int .i64 ((zs.take n).countP (· < x) : Nat), .bool ((zs.take n).contains x)]) ∧ ∃ q, w' = w.drewN q := Any.slices_BinarySearch_int Tryz.laysNm225 b off n c zs x w hz hbig hc hs
open Go.RowKit Go.Lib in
theorem Tryz.slices_BinarySearch_int_empty (a : Option Addr) (c : Nat) (x : Int) (w : World) :
    Calls Tryz.prog 178 #[.slice a 0 c, .int .i64 x] w fun e w' => e = .returned (.tuple #[.int .i64 0, .bool false]) ∧ w' = w := Any.slices_BinarySearch_int_empty Tryz.laysNm225 a c x w
open Go.RowKit Go.Lib in
theorem Tryz.slices_Equal_int_lens (a1 a2 : Option Addr) (n c m d : Nat) (w : World) (hnm : n ≠ m) :
    Calls Tryz.prog 113 #[.slice a1 n c, .slice a2 m d] w fun e w' => e = .returned (.bool false) ∧ w' = w := Any.slices_Equal_int_lens Tryz.lays111 a1 a2 n c m d w hnm
open Go.RowKit Go.Lib in
theorem Tryz.slices_Equal_string_lens (a1 a2 : Option Addr) (n c m d : Nat) (w : World) (hnm : n ≠ m) :
    Calls Tryz.prog 110 #[.slice a1 n c, .slice a2 m d] w fun e w' => e = .returned (.bool false) ∧ w' = w := Any.slices_Equal_string_lens Tryz.lays193 a1 a2 n c m d w hnm
def Tryz.laysSlM5_f208_ren : Go.Shelf.Ren := ⟨fun | 5 => 208 | 8 => 228 | 7 => 227 | 19 => 242 | 20 => 243 | 10 => 234 | 11 => 235 | 12 => 236 | 13 => 237 | 14 => 238 | 15 => 239 | 16 => 210 | 17 => 240 | 18 => 241 | 30 => 248 | 31 => 249 | 32 => 250 | 33 => 251 | 34 => 252 | 35 => 213 | 40 => 253 | n => n, fun | 23 => 153 | 25 => 3 | 3 => 3 | 32 => 175 | 22 => 153 | 0 => 0 | 44 => 231 | 46 => 108 | 4 => 4 | 36 => 285 | 35 => 284 | 41 => 221 | 5 => 5 | 9 => 9 | 53 => 295 | 57 => 298 | 63 => 300 | 64 => 301 | n => n, fun | n => n⟩
theorem Tryz.laysSlM5_f208 : Go.Proofs.SlLaysM.n5 Tryz.prog Tryz.laysSlM5_f208_ren := {
  mixed := by kernel_rfl
  f5 := ⟨Tryz.f208.name, by decide, Tryz.func208.trans (congrArg some (by kernel_rfl))⟩
  f7 := ⟨Tryz.f227.name, by decide, Tryz.func227.trans (congrArg some (by kernel_rfl))⟩
  f8 := Tryz.func228.trans (congrArg some (by kernel_rfl))
  f10 := ⟨Tryz.f234.name, by decide, Tryz.func234.trans (congrArg some (by kernel_rfl))⟩
  f11 := ⟨Tryz.f235.name, by decide, Tryz.func235.trans (congrArg some (by kernel_rfl))⟩
  f12 := ⟨Tryz.f236.name, by decide, Tryz.func236.trans (congrArg some (by kernel_rfl))⟩
  f13 := ⟨Tryz.f237.name, by decide, Tryz.func237.trans (congrArg some (by kernel_rfl))⟩
  f14 := ⟨Tryz.f238.name, by decide, Tryz.func238.trans (congrArg some (by kernel_rfl))⟩
  f15 := ⟨Tryz.f239.name, by decide, Tryz.func239.trans (congrArg some (by kernel_rfl))⟩
  f16 := ⟨Tryz.f210.name, by decide, Tryz.func210.trans (congrArg some (by kernel_rfl))⟩
  f17 := ⟨Tryz.f240.name, by decide, Tryz.func240.trans (congrArg some (by kernel_rfl))⟩
  f18 := ⟨Tryz.f241.name, by decide, Tryz.func241.trans (congrArg some (by kernel_rfl))⟩
  f19 := Tryz.func242.trans (congrArg some (by kernel_rfl))
  f20 := Tryz.func243.trans (congrArg some (by kernel_rfl))
  f30 := ⟨Tryz.f248.name, by decide, Tryz.func248.trans (congrArg some (by kernel_rfl))⟩
  f31 := Tryz.func249.trans (congrArg some (by kernel_rfl))
  f32 := Tryz.func250.trans (congrArg some (by kernel_rfl))
  f33 := ⟨Tryz.f251.name, by decide, Tryz.func251.trans (congrArg some (by kernel_rfl))⟩
  f34 := ⟨Tryz.f252.name, by decide, Tryz.func252.trans (congrArg some (by kernel_rfl))⟩
  f35 := ⟨Tryz.f213.name, by decide, Tryz.func213.trans (congrArg some (by kernel_rfl))⟩
  f40 := ⟨Tryz.f253.name, by decide, Tryz.func253.trans (congrArg some (by kernel_rfl))⟩
  t0 := Tryz.underlying0
  a0 := Tryz.isAgg0
  z0 := Tryz.sizeOf0
  v0 := Tryz.zeroValue0
  t3 := Tryz.underlying3
  a3 := Tryz.isAgg3
  z3 := Tryz.sizeOf3
  v3 := Tryz.zeroValue3
  t4 := Tryz.underlying4
  a4 := Tryz.isAgg4
  z4 := Tryz.sizeOf4
  v4 := Tryz.zeroValue4
  t5 := Tryz.underlying5
  a5 := Tryz.isAgg5
  z5 := Tryz.sizeOf5
  v5 := Tryz.zeroValue5
  t9 := Tryz.underlying9
  a9 := Tryz.isAgg9
  z9 := Tryz.sizeOf9
  v9 := Tryz.zeroValue9
  t22 := Tryz.underlying153
  a22 := Tryz.isAgg153
  z22 := Tryz.sizeOf153
  v22 := Tryz.zeroValue153
  t23 := Tryz.underlying153
  a23 := Tryz.isAgg153
  z23 := Tryz.sizeOf153
  v23 := Tryz.zeroValue153
  t25 := Tryz.underlying3
  a25 := Tryz.isAgg3
  z25 := Tryz.sizeOf3
  v25 := Tryz.zeroValue3
  t32 := Tryz.underlying175
  a32 := Tryz.isAgg175
  z32 := Tryz.sizeOf175
  v32 := Tryz.zeroValue175
  t35 := Tryz.underlying284
  a35 := Tryz.isAgg284
  z35 := Tryz.sizeOf284
  v35 := Tryz.zeroValue284
  t36 := Tryz.underlying285
  a36 := Tryz.isAgg285
  z36 := Tryz.sizeOf285
  v36 := Tryz.zeroValue285
  t41 := Tryz.underlying221
  a41 := Tryz.isAgg221
  z41 := Tryz.sizeOf221
  v41 := Tryz.zeroValue221
  t44 := Tryz.underlying231
  a44 := Tryz.isAgg231
  z44 := Tryz.sizeOf231
  v44 := Tryz.zeroValue231
  t46 := Tryz.underlying108
  a46 := Tryz.isAgg108
  z46 := Tryz.sizeOf108
  v46 := Tryz.zeroValue108
  t53 := Tryz.underlying295
  a53 := Tryz.isAgg295
  z53 := Tryz.sizeOf295
  v53 := Tryz.zeroValue295
  t57 := Tryz.underlying298
  a57 := Tryz.isAgg298
  z57 := Tryz.sizeOf298
  v57 := Tryz.zeroValue298
  t63 := Tryz.underlying300
  a63 := Tryz.isAgg300
  z63 := Tryz.sizeOf300
  v63 := Tryz.zeroValue300
  t64 := Tryz.underlying301
  a64 := Tryz.isAgg301
  z64 := Tryz.sizeOf301
  v64 := Tryz.zeroValue301 }
open Go.Sort Go.RowKit in
theorem Tryz.slices_Sort_int (blk off cap : Nat) (zs : List Int) (w : World) (hH : Holds (Value.int .i64) w blk off zs.toArray) (hblk : blk < w.heap.size) (hsz : zs.length < 4611686018427387904) :
    Calls Tryz.prog 208 #[.slice (some ⟨blk, off, none⟩) zs.length cap] w fun e w' =>
      e = .returned (.tuple #[]) ∧ ∃ n os, w' = grow (putRow (Value.int .i64) (Sort.ahead w n) blk off (zs.mergeSort fun x y => decide (x ≤ y)).toArray) os := AnyM.slices_Sort_int Tryz.laysSlM5_f208 blk off cap zs w hH hblk hsz
open Go.RowKit Go.Sort in
theorem Tryz.slices_Sort_int_none (p : Option Addr) (cap : Nat) (w : World) :
    Calls Tryz.prog 208 #[.slice p 0 cap] w fun e w' => e = .returned (.tuple #[]) ∧ w' = w := AnyM.slices_Sort_int_none Tryz.laysSlM5_f208 p cap w
def Tryz.laysnb115_ren : Go.Shelf.Ren := ⟨fun | 115 => 16 | n => n, fun | 37 => 24 | 4 => 4 | 9 => 9 | 5 => 5 | n => n, fun | n => n⟩
theorem Tryz.laysnb115 : Go.Proofs.Lays.nb115 Tryz.prog Tryz.laysnb115_ren := {
  mixed := by kernel_rfl
  f115 := Tryz.func16.trans (congrArg some (by kernel_rfl))
  t4 := Tryz.underlying4
  a4 := Tryz.isAgg4
  z4 := Tryz.sizeOf4
  v4 := Tryz.zeroValue4
  t9 := Tryz.underlying9
  a9 := Tryz.isAgg9
  z9 := Tryz.sizeOf9
  v9 := Tryz.zeroValue9
  t37 := Tryz.underlying24
  a37 := Tryz.isAgg24
  z37 := Tryz.sizeOf24
  v37 := Tryz.zeroValue24
  t5 := Tryz.underlying5
  a5 := Tryz.isAgg5
  z5 := Tryz.sizeOf5
  v5 := Tryz.zeroValue5 }
theorem Tryz.bytes_Equal_all (p1 p2 : Option Addr) (n c m d : Nat) (xs ys : List Int) (w : World) (hx : xs.length = n) (hy : ys.length = m) (h1 : Lib.BytesIn w p1 n xs) (h2 : Lib.BytesIn w p2 m ys) :
    Calls Tryz.prog 16 #[.slice p1 n c, .slice p2 m d] w fun e w' => e = .returned (.bool (Lib.bytesOf xs == Lib.bytesOf ys)) ∧ w' = w := Any.bytes_Equal_all Tryz.laysnb115 p1 p2 n c m d xs ys w hx hy h1 h2
def Tryz.lays115_ren : Go.Shelf.Ren := ⟨fun | 115 => 16 | n => n, fun | 37 => 24 | 4 => 4 | 9 => 9 | 5 => 5 | n => n, fun | n => n⟩
theorem Tryz.lays115 : Go.Proofs.Lays.n115 Tryz.prog Tryz.lays115_ren := {
  mixed := by kernel_rfl
  f115 := Tryz.func16.trans (congrArg some (by kernel_rfl))
  t4 := Tryz.underlying4
  a4 := Tryz.isAgg4
  z4 := Tryz.sizeOf4
  v4 := Tryz.zeroValue4
  t9 := Tryz.underlying9
  a9 := Tryz.isAgg9
  z9 := Tryz.sizeOf9
  v9 := Tryz.zeroValue9
  t37 := Tryz.underlying24
  a37 := Tryz.isAgg24
  z37 := Tryz.sizeOf24
  v37 := Tryz.zeroValue24 }
theorem Tryz.bytes_Equal (v1 v2 : Value) (xs ys : List Int) (w : World) (h1 : (convert 24 9 v1).run Tryz.prog w = .ok (.string (strOfNums xs)) w) (h2 : (convert 24 9 v2).run Tryz.prog w = .ok (.string (strOfNums ys)) w) :
    Calls Tryz.prog 16 #[v1, v2] w fun e w' => e = .returned (.bool (Lib.bytesOf xs == Lib.bytesOf ys)) ∧ w' = w := Any.bytes_Equal Tryz.lays115 v1 v2 xs ys w h1 h2
end Go.Proofs
