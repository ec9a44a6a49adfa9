/- Package accept: List, Promise. -/
import Derived.Test.YtpgbfoeejiamjaaGreatDoorK06
import Derived.Test.YtpgbfoeejiamjaaGreatDoorProg
import Derived.LoopTactic
import Derived.Laws.Bits64b
set_option linter.all false
set_option linter.unusedVariables false
set_option linter.unusedSimpArgs false
set_option linter.unusedSectionVars false
namespace Sk
open Go Go.RowKit Go.Proofs
attribute [local go_sem ↓] append_hide slice_hide
attribute [local go_sem ↓] run_eql_bal run_neq_bal
def SortedPost (W : World) (L : List Asn) (f : Int → Option (Bal × Str)) (e : Ending) (w : World) : Prop :=
  ∃ (v : Value) (ks : List Int), e = .returned v ∧ ks.Pairwise (· < ·) ∧ (∀ k, k ∈ ks ↔ f k ≠ none) ∧ Own W w (rowA 3 1 v ks.length (ks.map ik) :: L)
set_option maxRecDepth 100000 in
set_option maxHeartbeats 1000000 in
theorem sortedI {W w : World} {L : List Asn} {bx b : Nat} {f : Int → Option (Bal × Str)} (H : Own W w (blk bx (.cells #[.map (some b)] 156) :: entM b f :: L)) (hf : ∀ k, f k ≠ none → 0 ≤ k ∧ k < 4096) :
    Calls Tryz.prog 176 #[.func (.func 209) #[] #[ptr bx]] w (SortedPost W (entM b f :: L) f) := by
  have hcl := Lib.hid (collectI H hf)
  have HF := Lib.hid hf
  clear hf
  go_enter Tryz.func176, Tryz.ntmps176
  go_wp2_with (go_at_call 207; refine hcl.out.mono ?_; rintro e w1 ⟨v, ks, rfl, hn, hk, H1⟩)
  have hlen := nodup_bound 4096 ks hn (fun k h => HF.out k ((hk k).1 h))
  have HN := Lib.hid hn
  have HK := Lib.hid hk
  clear hn hk
  go_wp2_with (go_at_call 208; refine (sortI H1 hlen).mono ?_; rintro e w2 ⟨rfl, H2⟩)
  go_ret
  have hp := List.mergeSort_perm ks (fun x y => decide (x ≤ y))
  refine ⟨v, ks.mergeSort (fun x y => decide (x ≤ y)), rfl, ?_, fun k => ?_, ?_⟩
  · have h1 := List.pairwise_mergeSort (le := fun x y : Int => decide (x ≤ y)) (fun a b c h1 h2 => by simp at *; omega) (fun a b => by simp; omega) ks
    have h2 : (ks.mergeSort (fun x y => decide (x ≤ y))).Nodup := hp.nodup_iff.2 HN.out
    rw [List.nodup_iff_pairwise_ne] at h2
    exact (h1.and h2).imp (fun h => by simp at h; omega)
  · rw [hp.mem_iff]; exact HK.out k
  · rw [hp.length_eq]; exact H2
/-- A list of entries: those from a slot on, one after the other. -/
structure Rep {α : Type} (f : Int → Option α) (l : List (Int × α)) : Prop where
  up : l.Pairwise (fun a b => a.1 < b.1)
  all : ∀ k x, (k, x) ∈ l ↔ f k = some x
def fromF {α : Type} (f : Int → Option α) (u : Int) : Int → Option α := fun k => if u ≤ k then f k else none
@[reducible] def entR (x : Int × Bal × Str) : List Value := [ei x.1, ei x.2.1.r, ei x.2.1.n, .string x.2.2]
def entC (l : List (Int × Bal × Str)) : List Value := l.flatMap entR
theorem entC_len (l : List (Int × Bal × Str)) : (entC l).length = l.length * 4 := by
  induction l with
  | nil => rfl
  | cons x l ih => simp only [entC, List.flatMap_cons, List.length_append, List.length_cons, List.length_nil] at ih ⊢; omega
theorem entsT : SlT Tryz.prog 60 92 4 40 where
  type := Tryz.underlying60
  info := info_parts1 (z := .agg #[.int .i64 0, .int .i64 0, .int .i64 0, .string ByteArray.empty]) (by kernel_rfl) rfl
  pos := by decide
theorem drop_count : ∀ {ks : List Int} (u : Int), ks.Pairwise (· < ·) → ks.drop (ks.countP (· < u)) = ks.filter (fun k => decide (u ≤ k))
  | [], _, _ => rfl
  | k :: ks, u, h => by
    rw [List.pairwise_cons] at h
    by_cases hk : k < u
    · have : ¬ u ≤ k := by omega
      simp [hk, this, drop_count u h.2]
    · have h0 : ks.countP (fun x => decide (x < u)) = 0 := by
        rw [List.countP_eq_zero]
        intro a ha
        have := h.1 a ha
        simp; omega
      have hall : ∀ a ∈ ks, u ≤ a := fun a ha => by have := h.1 a ha; omega
      have hf : ks.filter (fun k => decide (u ≤ k)) = ks := List.filter_eq_self.2 (fun a ha => by simpa using hall a ha)
      have hk2 : u ≤ k := by omega
      simp [hk, h0, hk2, hf]
/-- The entries of some slots. -/
def entsOf (f : Int → Option (Bal × Str)) (ks : List Int) : List (Int × Bal × Str) := ks.map fun k => (k, (f k).getD (Bal.zero, ⟨#[]⟩))
theorem rep_from {f : Int → Option (Bal × Str)} {ks : List Int} (u : Int) (h : ks.Pairwise (· < ·)) (hm : ∀ k, k ∈ ks ↔ f k ≠ none) : Rep (fromF f u) (entsOf f (ks.drop (ks.countP (· < u)))) := by
  rw [drop_count u h]
  constructor
  · unfold entsOf
    rw [List.pairwise_map]
    exact (h.sublist List.filter_sublist)
  · intro k x
    unfold entsOf fromF
    simp only [List.mem_map, List.mem_filter, decide_eq_true_eq, Prod.mk.injEq, hm]
    constructor
    · rintro ⟨k', ⟨h1, h2⟩, rfl, rfl⟩
      cases hf : f k' with
      | none => exact absurd hf h1
      | some y => simp [h2]
    · intro hx
      split at hx
      · exact ⟨k, ⟨by rw [hx]; simp, by assumption⟩, rfl, by rw [hx]; rfl⟩
      · cases hx
theorem bsC {W w : World} {L : List Asn} {A : Option Addr} {c : Nat} {ks : List Int} (u : Int) (H : Own W w (rowA 3 1 (.slice A ks.length c) ks.length (ks.map ik) :: L)) (h : ks.Pairwise (· < ·)) (hl : ks.length ≤ 4096) :
    Calls Tryz.prog 178 #[.slice A ks.length c, ei u] w fun e w' => e = .returned (.tuple #[ei (ks.countP (· < u) : Nat), .bool (ks.contains u)]) ∧ ∃ q, w.drewN q = w' := by
  rcases H.row_cases with ⟨hv, h0, h1, _⟩ | ⟨g, cap, cur, hv, h1, h2, h3, h4, h5, H3⟩
  · have : ks = [] := List.eq_nil_of_length_eq_zero h0
    subst this
    refine (Tryz.slices_BinarySearch_int_empty _ _ _ _).mono ?_
    rintro e w' ⟨rfl, rfl⟩
    exact ⟨rfl, 0, rfl⟩
  · cases hv
    refine (Tryz.slices_BinarySearch_int g 0 ks.length c ks u w (Nat.le_refl _) (by omega) ?_ ?_).mono ?_
    · intro j hj
      have hu : (ks.map ik)[j]? = some (ik (ks.getD j 0)) := by simp [hj, List.getD]
      rw [← h4, List.getElem?_take] at hu
      have : j < ks.length * 1 := by omega
      rw [if_pos this] at hu
      have hb := H3.has
      simpa [World.cell?, hb] using hu
    · rw [List.take_length]; exact h.imp (fun h => by omega)
    · rintro e w' ⟨rfl, q, rfl⟩
      rw [List.take_length]
      exact ⟨rfl, q, rfl⟩
theorem entsOf_take {f : Int → Option (Bal × Str)} {ks : List Int} {i : Nat} {k : Int} (h : ks[i]? = some k) : entC (entsOf f (ks.take (i + 1))) = entC (entsOf f (ks.take i)) ++ entR (k, (f k).getD (Bal.zero, ⟨#[]⟩)) := by
  rw [List.take_add_one, h]
  simp [entsOf, entC]
def ListPost (W : World) (L : List Asn) (f : Int → Option (Bal × Str)) (e : Ending) (w : World) : Prop :=
  ∃ (v : Value) (l : List (Int × Bal × Str)), e = .returned v ∧ Rep f l ∧ Own W w (rowA 92 4 v l.length (entC l) :: L)
set_option maxRecDepth 100000 in
set_option maxHeartbeats 1000000 in
theorem accList {W w : World} {L : List Asn} {b : Nat} {s : Acc} (H : Own W w (accA b s :: L)) (hn : 0 < s.n) (u : Int) (hk : ∀ k, s.ent k ≠ none → 0 ≤ k ∧ k < 4096) :
    Calls Tryz.prog 105 #[ptr b, ei u] w (ListPost W (accA b s :: L) (fromF s.ent u)) := by
  obtain ⟨m, H0⟩ := H.acc_open
  have hc := H0.cell
  have hf := H0.free
  have hlt := H0.lt
  have H1 := (H0.alloc (.cells #[.map (some m)] 156)).sel [0, 2]
  have hso := Lib.hid (sortedI H1 hk)
  have HK := Lib.hid hk
  clear hk
  go_enter Tryz.func105, Tryz.ntmps105
  go_wp2_with (first | (go_at_call 116; go_in) | (go_at_call 177; refine (keysC _ _).mono ?_; rintro e w1 ⟨rfl, rfl⟩) | (go_at_call 176; refine hso.out.mono ?_; rintro e w1 ⟨v, ks, rfl, hup, hmem, H2⟩))
  have hlen := nodup_bound 4096 ks (hup.imp (fun h => by omega)) (fun k h => HK.out k ((hmem k).1 h))
  obtain ⟨A, c, rfl, hc1, hc2, _⟩ := H2.row_rd.form
  have hbs := bsC u H2 hup hlen
  have hrep := rep_from u hup hmem
  have hcl : ks.countP (· < u) ≤ ks.length := List.countP_le_length
  obtain ⟨f0, hf0⟩ : ∃ f0, f0 = ks.countP (· < u) := ⟨_, rfl⟩
  rw [← hf0] at hbs hrep hcl
  have HB := Lib.hid hbs
  have HR := Lib.hid hrep
  have HM := Lib.hid hmem
  have hsl := fun w => slice_l_eq (P := Tryz.prog) (A := A) (n := ks.length) (c := c) (kd := .i64) intT hcl w
  have H3 := H2.row_freeze.sl_tail hcl
  obtain ⟨A', hA'⟩ : ∃ A', A' = slP A c f0 1 := ⟨_, rfl⟩
  rw [← hA'] at hsl H3
  have hdr : (ks.map ik).drop (f0 * 1) = (ks.drop f0).map ik := by rw [Nat.mul_one, List.map_drop]
  have hdl : (ks.drop f0).length = ks.length - f0 := List.length_drop
  rw [hdr] at H3
  have hmd : ∀ k ∈ ks.drop f0, s.ent k ≠ none := fun k hk => (hmem k).1 (List.mem_of_mem_drop hk)
  have hgd : ∀ k ∈ ks.drop f0, goodInt k := fun k hk => by have := HK.out k (hmd k hk); exact goodInt_of (by omega) (by omega)
  clear hbs hrep hmem hf0 hup hA' hdr
  obtain ⟨zs, hzs⟩ : ∃ zs, zs = ks.drop f0 := ⟨_, rfl⟩
  rw [← hzs] at H3 HR hmd hgd hdl
  have hzl : zs.length ≤ 4096 := by omega
  rw [← hdl] at hsl H3
  have HD := Lib.hid hmd
  have HG := Lib.hid hgd
  clear hzs hmd hgd hdl
  go_wp2_with (go_at_call 178; refine HB.out.mono ?_; rintro e w2 ⟨rfl, q, rfl⟩)
  have H4 := H3.drewN q
  go_loopw [8, 30] (fun vo vi wr => ∃ (i : Nat) (A8 : Option Addr) (c8 : Nat), vo = .slice A8 i c8 ∧ vi = .int .i64 (i : Int) ∧ i ≤ zs.length ∧ Own W wr (rowA 92 4 (.slice A8 i c8) i (entC (entsOf s.ent (zs.take i))) :: slA 1 (.slice A' zs.length (c - f0)) zs.length (zs.map ik) :: entM m s.ent :: blk b (accCells s m) :: L)) (fun _ vi _ => zs.length - intN vi)
  case atStart => exact ⟨0, none, 0, rfl, rfl, by omega, H4.row_nil _ _⟩
  case round =>
    obtain ⟨i, A8, c8, rfl, rfl, hi, HH⟩ := hrel
    have hcb := HH.front4.cell
    by_cases hlt : i < zs.length
    · obtain ⟨-, A2, c2, he, -, -, hA2⟩ := HH.front2.sl_rd
      cases he
      obtain ⟨ad, rfl, hel⟩ := hA2 (by omega)
      obtain ⟨k, hk⟩ : ∃ k, zs[i]? = some k := ⟨_, List.getElem?_eq_getElem hlt⟩
      have hcell := hel i (ik k) (by simp [hk])
      have hkm : k ∈ zs := List.mem_of_getElem? hk
      obtain ⟨x, hx⟩ : ∃ x, s.ent k = some x := by
        cases h : s.ent k with
        | none => exact absurd h (HD.out k hkm)
        | some x => exact ⟨x, rfl⟩
      have hlk := HH.front3.lookup_some1 entT (HG.out k hkm) hx
      have hst := entsOf_take (f := s.ent) hk
      rw [hx] at hst
      obtain ⟨A9, c9, w3, hap, H5⟩ := ((Own.skip HH (.cells #[ei k, ei x.1.r, ei x.1.n, .string x.2] 92))).append_eq (m := 1) entsT 60 (rd_new wr #[ei k, ei x.1.r, ei x.1.n, .string x.2] 92 rfl (by decide)) (by simp [Value.oneCell']) (by unfold maxLen; omega) (by omega)
      have HS := Lib.hid hst
      clear hel hA2 hk hkm hx hst
      go_wp2_with fail
      refine ⟨⟨i + 1, A9, c9, rfl, by go_num, by omega, ?_⟩, by simp only [intN]; omega⟩
      rw [HS.out]
      exact H5
    · have : i = zs.length := by omega
      subst this
      rw [List.take_length] at HH
      clear hlt hi
      go_wp2_with fail
      go_ret
      have hlz : (entsOf s.ent zs).length = zs.length := by simp [entsOf]
      refine ⟨_, entsOf s.ent zs, rfl, HR.out, ?_⟩
      rw [hlz]
      exact (Own.acc_shut (HH.sel [3, 2, 0, 1])).sel [1, 0] |>.drop3
end Sk
/- Package accept: Promise. -/
namespace Sk
open Go Go.RowKit Go.Proofs
attribute [local go_sem ↓] run_eql_bal run_neq_bal
/-- Promise: the error, and the acceptor. -/
def Acc.promise (s : Acc) (x : Bal) (u : Int) : Int × Acc :=
  if ¬ s.good x ∨ u < 0 ∨ 4096 < u then (2, s) else if x.order s.prom < 0 then (8, s) else (0, { s with prom := x })
def PromPost (W : World) (L : List Asn) (f : Int → Option (Bal × Str)) (e : Ending) (w : World) : Prop :=
  ∃ (v : Value) (l : List (Int × Bal × Str)), e = .returned (.tuple #[v, ei 0]) ∧ Rep f l ∧ Own W w (rowA 92 4 v l.length (entC l) :: L)
section
variable {W w : World} {L : List Asn} {b : Nat} {s : Acc}
set_option maxRecDepth 100000 in
set_option maxHeartbeats 4000000 in
theorem accPromiseNo (H : Own W w (accA b s :: L)) (hn : 0 < s.n) (x : Bal) (u : Int) (er : Int) (he : s.promise x u = (er, s)) (h0 : er ≠ 0) :
    Calls Tryz.prog 35 #[ptr b, x.v, ei u] w fun e w' => e = .returned (.tuple #[.slice none 0 0, ei er]) ∧ Own W w' (accA b s :: L) := by
  obtain ⟨m, H0⟩ := H.acc_open
  have hc := H0.cell
  have hf := H0.free
  have hlt := H0.lt
  have hlt1 : b < w.heap.size + 1 := by omega
  clear H
  by_cases h1 : ¬ s.good x ∨ u < 0 ∨ 4096 < u
  · obtain rfl : er = 2 := by unfold Acc.promise at he; rw [if_pos h1] at he; cases he; rfl
    clear he h0
    by_cases hg : s.good x
    · have hg' := decide_eq_true hg
      have h2 : u < 0 ∨ 4096 < u := by simpa [hg] using h1
      clear h1 hg
      go_enter Tryz.func35, Tryz.ntmps35
      go_wp2_with (first | (go_at_call 116; go_in) | (go_at_call 117; refine (accGood b _ s x (by go_simp)).mono ?_; rintro e w1 ⟨rfl, hb⟩; have hr := hb.rule; obtain ⟨hl1, hl2⟩ : b < w1.heap.size ∧ w.heap.size < w1.heap.size := by (have hl := hb.size; simp at hl; omega)))
      all_goals (go_ret2; exact ⟨rfl, ((H0.skip _).grown hb).acc_shut⟩)
    · have hg' := decide_eq_false hg
      clear h1 hg
      go_enter Tryz.func35, Tryz.ntmps35
      go_wp2_with (first | (go_at_call 116; go_in) | (go_at_call 117; refine (accGood b _ s x (by go_simp)).mono ?_; rintro e w1 ⟨rfl, hb⟩; have hr := hb.rule; obtain ⟨hl1, hl2⟩ : b < w1.heap.size ∧ w.heap.size < w1.heap.size := by (have hl := hb.size; simp at hl; omega)))
      all_goals (go_ret2; exact ⟨rfl, ((H0.skip _).grown hb).acc_shut⟩)
  · have hg' : decide (s.good x) = true := decide_eq_true (Classical.not_not.1 fun h => h1 (.inl h))
    have hs0 : 0 ≤ u := by omega
    have hs1 : u ≤ 4096 := by omega
    have h3 : x.order s.prom < 0 := by
      unfold Acc.promise at he; rw [if_neg h1] at he
      split at he
      · assumption
      · exact absurd (congrArg Prod.fst he).symm h0
    obtain rfl : er = 8 := by unfold Acc.promise at he; rw [if_neg h1, if_pos h3] at he; cases he; rfl
    clear h1 he h0
    go_enter Tryz.func35, Tryz.ntmps35
    go_wp2_with (first | (go_at_call 116; go_in) | (go_at_call 117; refine (accGood b _ s x (by go_simp)).mono ?_; rintro e w1 ⟨rfl, hb⟩; have hr := hb.rule; obtain ⟨hl1, hl2⟩ : b < w1.heap.size ∧ w.heap.size < w1.heap.size := by (have hl := hb.size; simp at hl; omega)))
    go_region_held3 (fun w' => ∀ g o, g < w1.heap.size → w'.cell? ⟨g, o, none⟩ = w1.cell? ⟨g, o, none⟩) (first | go_keep | (intro g o hg; rw [hb2.cell hg]; rfl)) (first | (go_at_call 118; refine (balOrder x s.prom _).mono ?_; rintro e w2 ⟨rfl, hb2⟩))
    go_wp2_with fail
    go_ret2
    exact ⟨rfl, (((H0.skip _).grown hb).drew.grown hb2).acc_shut⟩
set_option maxRecDepth 100000 in
set_option maxHeartbeats 4000000 in
theorem accPromiseOk (H : Own W w (accA b s :: L)) (hn : 0 < s.n) (hk : ∀ k, s.ent k ≠ none → 0 ≤ k ∧ k < 4096) (x : Bal) (u : Int) (s' : Acc) (he : s.promise x u = (0, s')) :
    Calls Tryz.prog 35 #[ptr b, x.v, ei u] w (PromPost W (accA b s' :: L) (fromF s.ent u)) := by
  obtain ⟨m, H0⟩ := H.acc_open
  have hc := H0.cell
  have hf := H0.free
  have hlt := H0.lt
  have hlt1 : b < w.heap.size + 1 := by omega
  clear H
  by_cases h1 : ¬ s.good x ∨ u < 0 ∨ 4096 < u
  · unfold Acc.promise at he; rw [if_pos h1] at he; cases he
  · have hg' : decide (s.good x) = true := decide_eq_true (Classical.not_not.1 fun h => h1 (.inl h))
    have hs0 : 0 ≤ u := by omega
    have hs1 : u ≤ 4096 := by omega
    have h3 : ¬ x.order s.prom < 0 := by
      unfold Acc.promise at he; rw [if_neg h1] at he
      split at he
      · cases he
      · assumption
    obtain rfl : s' = { s with prom := x } := by unfold Acc.promise at he; rw [if_neg h1, if_neg h3] at he; cases he; rfl
    have HK := Lib.hid hk
    clear h1 he hk
    go_enter Tryz.func35, Tryz.ntmps35
    go_wp2_with (first | (go_at_call 116; go_in) | (go_at_call 117; refine (accGood b _ s x (by go_simp)).mono ?_; rintro e w1 ⟨rfl, hb⟩; have hr := hb.rule; obtain ⟨hl1, hl2⟩ : b < w1.heap.size ∧ w.heap.size < w1.heap.size := by (have hl := hb.size; simp at hl; omega)))
    go_region_held3 (fun w' => ∀ g o, g < w1.heap.size → w'.cell? ⟨g, o, none⟩ = w1.cell? ⟨g, o, none⟩) (first | go_keep | (intro g o hg; rw [hb2.cell hg]; rfl)) (first | (go_at_call 118; refine (balOrder x s.prom _).mono ?_; rintro e w2 ⟨rfl, hb2⟩))
    have H2 := ((H0.skip (Obj.cells #[Value.int IntKind.i64 x.r, Value.int IntKind.i64 x.n] 23)).grown hb).drew.grown hb2
    have hf2 := H2.free
    have H3 := (H2.set 1 (.int .i64 x.r)).set 2 (.int .i64 x.n)
    have hls := Lib.hid (accList (s := { s with prom := x }) (Own.acc_shut H3) hn u HK.out)
    go_wp2_with (go_at_call 105; refine hls.out.mono ?_; rintro e w3 ⟨v, l, rfl, hrep, H4⟩)
    go_ret2
    exact ⟨v, l, rfl, hrep, H4⟩
end
end Sk
/- Package stable: the records. -/
namespace Sk
open Go Go.RowKit Go.Proofs
attribute [local go_sem ↓] append_hide
def uN (n : Int) : Nat := (n % 18446744073709551616).toNat
theorem wrap_uN (n : Int) : IntKind.u64.wrap n = ((uN n : Nat) : Int) := by
  have : IntKind.u64.wrap n = n % 18446744073709551616 := rfl
  rw [this, uN]; omega
theorem uN_cast (n : Int) : ((uN n : Nat) : Int) = n % 18446744073709551616 := by unfold uN; omega
theorem uN_lt (n : Int) : uN n < 18446744073709551616 := by unfold uN; omega
def encI (n : Int) : List UInt8 := encU (uN n)
def encL (l : List Int) : List UInt8 := l.flatMap encI
theorem encI_len (n : Int) : (encI n).length ≤ 10 := by
  have := encN_len 9 (uN n) (by have := uN_lt n; omega)
  simpa [encI, encU] using this
theorem encL_len (l : List Int) : (encL l).length ≤ 10 * l.length := by
  induction l with
  | nil => simp [encL]
  | cons x l ih =>
    have := encI_len x
    simp only [encL, List.flatMap_cons, List.length_append, List.length_cons] at ih ⊢
    omega
theorem encL_take {l : List Int} {i : Nat} {x : Int} (h : l[i]? = some x) : encL (l.take (i + 1)) = encL (l.take i) ++ encI x := by
  rw [List.take_add_one, h]
  simp [encL]

set_option maxHeartbeats 1000000 in
theorem numbersC {W w : World} {L : List Asn} {b : Nat} {s : List UInt8} {v : Value} {l : List Int} (H : Own W w (slA 1 v l.length (l.map ei) :: wrA b s :: L)) (hl : l.length ≤ 1000000) (hs : s.length ≤ 1000000000) :
    Calls Tryz.prog 131 #[.agg #[ptr b], v] w fun e w' => e = .returned (.tuple #[]) ∧ Own W w' (wrA b (s ++ encL l) :: L) := by
  have hr := H.sl_rd
  obtain ⟨hlen, A, c, rfl, hnc, hcm, hA⟩ := hr
  have H1 := H.alloc (.cells #[ptr b] 101)
  go_enter Tryz.func131, Tryz.ntmps131
  go_wp2
  go_loopw [8] (fun vi wr => ∃ i : Nat, vi = .int .i64 (i : Int) ∧ i ≤ l.length ∧ Own W wr (blk w.heap.size (.cells #[ptr b] 101) :: slA 1 (.slice A l.length c) l.length (l.map ei) :: wrA b (s ++ encL (l.take i)) :: L)) (fun vi _ => l.length - intN vi)
  case atStart => exact ⟨0, rfl, by omega, by simpa [encL] using H1⟩
  case round =>
    obtain ⟨i, rfl, hi, HH⟩ := hrel
    have hc := HH.cell
    obtain ⟨-, A2, c2, he, -, -, hA2⟩ := HH.front2.sl_rd
    cases he
    by_cases hlt : i < l.length
    · obtain ⟨ad, rfl, hel⟩ := hA2 (by omega)
      have hx : l[i]? = some l[i] := List.getElem?_eq_getElem hlt
      have hcell := hel i (ei l[i]) (by simp [hx])
      have hlen := encL_len (l.take i)
      simp only [List.length_take] at hlen
      go_wp2_with (go_at_call 156; rw [wrap_uN]; refine (wrUint HH.front3 _ (uN_lt _) (by rw [List.length_append]; omega)).mono ?_; rintro e w' ⟨rfl, H2⟩)
      refine ⟨⟨i + 1, by simp, by omega, ?_⟩, ?_⟩
      · have e : encL (l.take (i + 1)) = encL (l.take i) ++ encI l[i] := encL_take hx
        rw [e, ← List.append_assoc]
        exact H2.back3
      · simp only [intN]; omega
    · have : i = l.length := by omega
      subst this
      rw [List.take_length] at HH
      go_wp2
      refine bodyPost_end (results_none rfl _ _ _) rfl ?_
      exact ⟨rfl, HH.drop.drop⟩

/-- A list of integers in a block just made is read only from here on. -/
theorem Own.lits {W w : World} {L : List Asn} {g n : Nat} {l : List Int} (e : TypeId) (H : Own W w (blk g (.cells (l.map ei).toArray e) :: L)) (hn : l.length = n) (hm : n ≤ 1000) : Own W w (slA 1 (.slice (some ⟨g, 0, none⟩) n n) l.length (l.map ei) :: L) := by
  subst hn
  have h := (H.row_of_blk (n := l.length) (cap := l.length) (size := 1) (xs := l.map ei) (Nat.le_refl _) (by unfold maxLen; omega) (by simp) (by simp [List.take_of_length_le])).row_freeze
  exact h
/-- A record and an error have come back. -/
def RetRec (W : World) (L : List Asn) (x : Int × List UInt8) (en : Ending) (w' : World) : Prop :=
  ∃ v, en = .returned (.tuple #[v, ei x.1]) ∧ Own W w' (rowA 5 1 v x.2.length (x.2.map byteV) :: L)
def shortP (s : List UInt8) : Int × List UInt8 := if s.length ≤ 65536 then (0, s) else (11, [])
theorem shortP_yes {s : List UInt8} (h : (s.length : Int) ≤ 65536) : shortP s = (0, s) := if_pos (by omega)
theorem shortP_no {s : List UInt8} (h : 65536 < (s.length : Int)) : shortP s = (11, []) := if_neg (by omega)
set_option maxHeartbeats 1000000 in
theorem doneC {W w : World} {L : List Asn} {b : Nat} {s : List UInt8} (H : Own W w (wrA b s :: L)) (hn : s.length ≤ 140737488355328) :
    Calls Tryz.prog 67 #[.agg #[ptr b]] w (RetRec W (wrA b s :: L) (shortP s)) := by
  go_enter Tryz.func67, Tryz.ntmps67
  have H1 := H.alloc (.cells #[ptr b] 101)
  go_wp2_with (first | (go_at_call 149; refine (wrLen H1.front2).mono ?_; rintro e w' ⟨rfl, rfl⟩) | (go_at_call 150; refine (wrBytes H1.front2 hn).mono ?_; rintro e w' ⟨A', c', rfl, H2⟩))
  · refine bodyPost_ret (v := .tuple #[.slice none 0 0, ei 11]) (by simp [results, Tryz.results67, go_sem]) rfl ?_
    rw [shortP_no (by assumption)]
    exact ⟨_, rfl, H1.drop.row_nil _ _⟩
  · refine bodyPost_ret (v := .tuple #[.slice A' s.length c', ei 0]) (by simp [results, Tryz.results67, go_sem]) rfl ?_
    rw [shortP_yes (by assumption)]
    exact ⟨_, rfl, H2.front3.drop⟩
set_option maxHeartbeats 1000000 in
theorem newWriterC {W w : World} {L : List Asn} {v : Value} {l : List Int} (H : Own W w (slA 1 v l.length (l.map ei) :: L)) (hl : l.length ≤ 1000000) :
    Calls Tryz.prog 66 #[v] w fun e w' => ∃ b, e = .returned (.agg #[ptr b]) ∧ Own W w' (wrA b (encL l) :: L) := by
  have H1 := H.alloc (.cells #[.pointer none] 101)
  go_enter Tryz.func66, Tryz.ntmps66
  go_wp2_with (first | (go_at_call 148; refine (wrNew H1).mono ?_; rintro e w1 ⟨rfl, H2⟩; rw [World.size_alloc] at H2) | (go_at_call 131; refine (numbersC (H2.alloc _).front4.mid2 hl (by simp)).mono ?_; rintro e w2 ⟨rfl, H3⟩; have hc3 := H3.front2.cell; have H4 := H3.front3; have hc4 := H4.cell; have hf4 := H4.free))
  have H5 := H4.set 0 (ptr (w.heap.size + 1))
  have hc5 := H5.cell 0
  refine bodyPost_ret (v := .agg #[ptr (w.heap.size + 1)]) (by simp [results, Tryz.results66, go_sem, hc5]) rfl ?_
  exact ⟨_, rfl, H5.drop.drop2⟩
set_option maxHeartbeats 1000000 in
theorem isSlotC (n : Int) (w : World) : Calls Tryz.prog 72 #[ei n] w fun e w' => e = .returned (.bool (decide (0 ≤ n ∧ n < 4096))) ∧ w = w' := by
  go_enter Tryz.func72, Tryz.ntmps72
  go_wp2
  all_goals (go_ret; refine ⟨?_, rfl⟩)
  all_goals first | exact ret_bool (by simp; omega) | exact ret_bool (by simp_all)
/-- A ballot is good. -/
def Bal.good (b : Bal) : Prop := b ≠ Bal.zero ∧ b.ok 7
instance balGoodDec (b : Bal) : Decidable b.good := by unfold Bal.good; infer_instance
def checkedP (b : Bal) (wrong : Bool) : Int := if wrong = false ∧ b.good then 0 else 2
theorem checkedP_yes {b : Bal} {w : Bool} (h : w = false ∧ b.good) : checkedP b w = 0 := if_pos h
theorem checkedP_no {b : Bal} {w : Bool} (h : ¬ (w = false ∧ b.good)) : checkedP b w = 2 := if_neg h
attribute [local go_sem ↓] run_eql_bal run_neq_bal
set_option maxHeartbeats 1000000 in
theorem checkedC (b : Bal) (wrong : Bool) (w : World) : Calls Tryz.prog 65 #[b.v, .bool wrong] w fun e w' => e = .returned (ei (checkedP b wrong)) ∧ Bel w w' := by
  cases wrong
  · by_cases hz : b = Bal.zero
    · have hzb := balEq_yes hz
      go_enter Tryz.func65, Tryz.ntmps65
      go_wp2
      go_ret
      exact ⟨ret_ei (checkedP_no (fun h => h.2.1 rfl)), (Bel.refl _).alloc _⟩
    · have hzb := balEq_no hz
      by_cases hok : b.ok 7
      · have hck := Bal.check_ok hok
        go_enter Tryz.func65, Tryz.ntmps65
        go_wp2_with (go_at_call 147; refine (balCheck _ _ _).mono ?_; rintro e w1 ⟨rfl, hb⟩)
        go_ret
        exact ⟨ret_ei (checkedP_yes ⟨rfl, hz, hok⟩), ((Bel.refl _).alloc _).trans hb⟩
      · have hck := Bal.check_no hok
        go_enter Tryz.func65, Tryz.ntmps65
        go_wp2_with (go_at_call 147; refine (balCheck _ _ _).mono ?_; rintro e w1 ⟨rfl, hb⟩)
        go_ret
        exact ⟨ret_ei (checkedP_no (fun h => hok h.2.2)), ((Bel.refl _).alloc _).trans hb⟩
  · go_enter Tryz.func65, Tryz.ntmps65
    go_wp2
    go_ret
    exact ⟨ret_ei (checkedP_no (fun h => by cases h.1)), (Bel.refl _).alloc _⟩
theorem checkedP_range (b : Bal) (w : Bool) : checkedP b w = 0 ∨ checkedP b w = 2 := by unfold checkedP; split <;> simp
/-- The record of a promise. -/
def promP (b : Bal) : Int × List UInt8 := if b.good then shortP (encL [1, b.r, b.n]) else (2, [])
def isSlot (n : Int) : Prop := 0 ≤ n ∧ n < 4096
instance isSlotDec (n : Int) : Decidable (isSlot n) := by unfold isSlot; infer_instance
def accP (b : Bal) (slot : Int) (t : ByteArray) : Int × List UInt8 := if b.good ∧ isSlot slot then shortP (encL [2, b.r, b.n, slot] ++ encU t.size ++ t.data.toList) else (2, [])
def chooseP (slot : Int) (t : ByteArray) : Int × List UInt8 := if isSlot slot then shortP (encL [3, slot] ++ encU t.size ++ t.data.toList) else (2, [])
set_option maxHeartbeats 1000000 in
theorem promiseC {W w : World} {L : List Asn} (H : Own W w L) (b : Bal) : Calls Tryz.prog 10 #[b.v] w (RetRec W L (promP b)) := by
  have H1 := H.alloc (.cells #[.int .i64 b.r, .int .i64 b.n] 23)
  by_cases hg : b.good
  · have hck := checkedP_yes (b := b) (w := false) ⟨rfl, hg⟩
    go_enter Tryz.func10, Tryz.ntmps10
    go_wp2_with (first | (go_at_call 65; refine (checkedC _ _ _).mono ?_; rintro e w1 ⟨rfl, hb⟩; have H2 := H1.grown hb; have hc2 := H2.cell) | (go_at_call 66; refine (newWriterC (l := [1, b.r, b.n]) ((H2.alloc _).lits _ rfl (by simp)) (by simp)).mono ?_; rintro e w2 ⟨c, rfl, H3⟩) | (go_at_call 67; refine (doneC H3 (by have := encL_len [1, b.r, b.n]; simp at this; omega)).mono ?_; rintro e w3 ⟨v, rfl, H4⟩))
    refine bodyPost_ret (v := .tuple #[v, ei (shortP (encL [1, b.r, b.n])).1]) (by simp [results, Tryz.results10, go_sem]) rfl ?_
    rw [promP, if_pos hg]
    exact ⟨_, rfl, H4.drop2.drop2⟩
  · have hck := checkedP_no (b := b) (w := false) (fun h => hg h.2)
    go_enter Tryz.func10, Tryz.ntmps10
    go_wp2_with (go_at_call 65; refine (checkedC _ _ _).mono ?_; rintro e w1 ⟨rfl, hb⟩)
    refine bodyPost_ret (v := .tuple #[.slice none 0 0, ei 2]) (by simp [results, Tryz.results10, go_sem]) rfl ?_
    rw [promP, if_neg hg]
    exact ⟨_, rfl, (H1.grown hb).drop.row_nil _ _⟩
set_option maxHeartbeats 1000000 in
theorem chooseC {W w : World} {L : List Asn} (H : Own W w L) (slot : Int) (t : ByteArray) (ht : t.size ≤ 100000) : Calls Tryz.prog 14 #[ei slot, .string t] w (RetRec W L (chooseP slot t)) := by
  by_cases hg : isSlot slot
  · have hs : decide (0 ≤ slot ∧ slot < 4096) = true := decide_eq_true hg
    have hlen : (encL [3, slot]).length ≤ 20 := encL_len _
    have hln : (encL [3, slot] ++ encU t.size ++ t.data.toList).length ≤ 140737488355328 := by
      have := encN_len 9 t.size (by omega)
      have e : t.data.toList.length = t.size := rfl
      simp only [List.length_append, encU, List.length_map, e] at *; omega
    go_enter Tryz.func14, Tryz.ntmps14
    go_wp2_with (first | (go_at_call 72; refine (isSlotC _ _).mono ?_; rintro e w1 ⟨rfl, rfl⟩) | (go_at_call 66; refine (newWriterC (l := [3, slot]) ((H.alloc _).lits _ rfl (by simp)) (by simp)).mono ?_; rintro e w2 ⟨c, rfl, H3⟩; have H4 := (H3.alloc (.cells #[ptr c] 101)); have hc4 := H4.cell) | (go_at_call 73; refine (wrText H4.front2 t (by omega) (by omega)).mono ?_; rintro e w3 ⟨rfl, H5⟩; have hc5 := H5.front2.cell) | (go_at_call 67; refine (doneC H5 hln).mono ?_; rintro e w4 ⟨v, rfl, H6⟩))
    refine bodyPost_ret (v := .tuple #[v, ei (shortP (encL [3, slot] ++ encU t.size ++ t.data.toList)).1]) (by simp [results, Tryz.results14, go_sem]) rfl ?_
    rw [chooseP, if_pos hg]
    exact ⟨_, rfl, H6.drop2.drop2⟩
  · have hs : decide (0 ≤ slot ∧ slot < 4096) = false := decide_eq_false hg
    go_enter Tryz.func14, Tryz.ntmps14
    go_wp2_with (go_at_call 72; refine (isSlotC _ _).mono ?_; rintro e w1 ⟨rfl, rfl⟩)
    refine bodyPost_ret (v := .tuple #[.slice none 0 0, ei 2]) (by simp [results, Tryz.results14, go_sem]) rfl ?_
    rw [chooseP, if_neg hg]
    exact ⟨_, rfl, H.row_nil _ _⟩
set_option maxHeartbeats 1000000 in
theorem acceptC {W w : World} {L : List Asn} (H : Own W w L) (b : Bal) (slot : Int) (t : ByteArray) (ht : t.size ≤ 100000) : Calls Tryz.prog 12 #[b.v, ei slot, .string t] w (RetRec W L (accP b slot t)) := by
  have H1 := H.alloc (.cells #[.int .i64 b.r, .int .i64 b.n] 23)
  by_cases hg : b.good ∧ isSlot slot
  · have hs : decide (0 ≤ slot ∧ slot < 4096) = true := decide_eq_true hg.2
    have hck := checkedP_yes (b := b) (w := false) ⟨rfl, hg.1⟩
    have hlen : (encL [2, b.r, b.n, slot]).length ≤ 40 := encL_len _
    have hln : (encL [2, b.r, b.n, slot] ++ encU t.size ++ t.data.toList).length ≤ 140737488355328 := by
      have := encN_len 9 t.size (by omega)
      have e : t.data.toList.length = t.size := rfl
      simp only [List.length_append, encU, List.length_map, e] at *; omega
    go_enter Tryz.func12, Tryz.ntmps12
    go_wp2_with fail
    go_region_held3 (fun w' => ∀ g o, g < w.heap.size + 1 → w'.cell? ⟨g, o, none⟩ = (w.alloc (.cells #[.int .i64 b.r, .int .i64 b.n] 23)).cell? ⟨g, o, none⟩) (first | go_keep | (intro g o hg; rw [hb.cell (by simpa using hg)]; rfl)) (first | (go_at_call 72; refine (isSlotC _ _).mono ?_; rintro e w1 ⟨rfl, rfl⟩) | (go_at_call 65; refine (checkedC _ _ _).mono ?_; rintro e w1 ⟨rfl, hb⟩))
    go_wp2_with (first | (go_at_call 66; refine (newWriterC (l := [2, b.r, b.n, slot]) (((H1.drew.grown hb).alloc _).lits _ rfl (by simp)) (by simp)).mono ?_; rintro e w2 ⟨c, rfl, H3⟩; have H4 := (H3.alloc (.cells #[ptr c] 101)); have hc4 := H4.cell) | (go_at_call 73; refine (wrText H4.front2 t (by omega) (by omega)).mono ?_; rintro e w3 ⟨rfl, H5⟩; have hc5 := H5.front2.cell) | (go_at_call 67; refine (doneC H5 hln).mono ?_; rintro e w4 ⟨v, rfl, H6⟩))
    refine bodyPost_ret (v := .tuple #[v, ei (shortP (encL [2, b.r, b.n, slot] ++ encU t.size ++ t.data.toList)).1]) (by simp [results, Tryz.results12, go_sem]) rfl ?_
    rw [accP, if_pos hg]
    exact ⟨_, rfl, H6.drop2.drop2.drop2⟩
  · have hck : checkedP b (!decide (0 ≤ slot ∧ slot < 4096)) = 2 := checkedP_no (fun h => hg ⟨h.2, by simpa [isSlot] using h.1⟩)
    generalize hz : decide (0 ≤ slot ∧ slot < 4096) = z at *
    go_enter Tryz.func12, Tryz.ntmps12
    go_wp2_with fail
    go_region_held3 (fun w' => ∀ g o, g < w.heap.size + 1 → w'.cell? ⟨g, o, none⟩ = (w.alloc (.cells #[.int .i64 b.r, .int .i64 b.n] 23)).cell? ⟨g, o, none⟩) (first | go_keep | (intro g o hg; rw [hb.cell (by simpa using hg)]; rfl)) (first | (go_at_call 72; refine (isSlotC _ _).mono ?_; rw [hz]; rintro e w1 ⟨rfl, rfl⟩) | (go_at_call 65; refine (checkedC _ _ _).mono ?_; rintro e w1 ⟨rfl, hb⟩))
    go_wp2
    refine bodyPost_ret (v := .tuple #[.slice none 0 0, ei 2]) (by simp [results, Tryz.results12, go_sem]) rfl ?_
    rw [accP, if_neg hg]
    exact ⟨_, rfl, (H1.drew.grown hb).drop.row_nil _ _⟩
end Sk
/- Package wire: a number at the beginning of bytes. -/
namespace Sk
open Go Go.RowKit Go.Proofs
/-- The number at the beginning of bytes, and how many bytes it has. -/
def numF : Nat → Nat → List UInt8 → Option (Nat × Nat)
  | _, _, [] => none
  | i, n, c :: r => if (i = 9 ∧ 1 < c.toNat) ∨ (0 < i ∧ c.toNat = 0) then none else if c.toNat < 128 then some (n + c.toNat * 2 ^ (7 * i), i + 1) else numF (i + 1) (n + (c.toNat - 128) * 2 ^ (7 * i)) r
def num1 (o : Option (Nat × Nat)) : Nat := match o with | some x => x.1 | none => 0
def num2 (o : Option (Nat × Nat)) : Nat := match o with | some x => x.2 | none => 0
def numV (o : Option (Nat × Nat)) : Value := .tuple #[.int .u64 (num1 o), ei (num2 o)]
theorem clr128_small : ∀ r : Fin 256, bits BinOp.andNot IntKind.u8 ((r.1 : Nat) : Int) 128 = ((r.1 % 128 : Nat) : Int) := by decide +kernel
theorem clr128 (c : UInt8) : bits BinOp.andNot IntKind.u8 (c.toNat : Int) 128 = ((c.toNat % 128 : Nat) : Int) := clr128_small ⟨c.toNat, c.toNat_lt⟩
theorem or_shift {n m k : Nat} (hn : n < 2 ^ k) (hm : m * 2 ^ k < 18446744073709551616) (hk : k ≤ 63) :
    bits BinOp.or IntKind.u64 (n : Int) (IntKind.u64.wrap (IntKind.u64.wrap (m : Int) * 2 ^ k)) = ((n + m * 2 ^ k : Nat) : Int) := by
  have h2 : 2 ^ k ≤ 2 ^ 63 := Nat.pow_le_pow_right (by omega) hk
  have hm1 : m < 18446744073709551616 := by
    have : m * 1 ≤ m * 2 ^ k := Nat.mul_le_mul_left _ Nat.one_le_two_pow
    omega
  have e1 : IntKind.u64.wrap (m : Int) = m := by rw [IntKind.wrap_u64]; omega
  have e2 : (m : Int) * 2 ^ k = ((m * 2 ^ k : Nat) : Int) := by simp
  have e3 : IntKind.u64.wrap ((m * 2 ^ k : Nat) : Int) = ((m * 2 ^ k : Nat) : Int) := by rw [IntKind.wrap_u64]; omega
  rw [e1, e2, e3, bits_or_u64_nat _ _ (by omega) hm]
  have := Nat.two_pow_add_eq_or_of_lt hn m
  rw [Nat.or_comm, Nat.mul_comm m, ← this]
  omega
theorem num_step {i n : Nat} {c : UInt8} (hi : i ≤ 9) (hn : n < 2 ^ (7 * i)) (h9 : ¬ (i = 9 ∧ 1 < c.toNat)) :
    bits BinOp.or IntKind.u64 (n : Int) (IntKind.u64.wrap (IntKind.u64.wrap (bits BinOp.andNot IntKind.u8 (c.toNat : Int) 128) * 2 ^ (7 * i))) = ((n + (c.toNat % 128) * 2 ^ (7 * i) : Nat) : Int) := by
  rw [clr128]
  refine or_shift hn ?_ (by omega)
  by_cases h : i = 9
  · subst h
    have : c.toNat % 128 ≤ 1 := by omega
    omega
  · have h2 : 2 ^ (7 * i) ≤ 2 ^ 56 := Nat.pow_le_pow_right (by omega) (by omega)
    have : c.toNat % 128 * 2 ^ (7 * i) ≤ 127 * 2 ^ 56 := Nat.mul_le_mul (by omega) h2
    omega
theorem num_le {i n : Nat} {c : UInt8} (hn : n < 2 ^ (7 * i)) : n + (c.toNat % 128) * 2 ^ (7 * i) < 2 ^ (7 * (i + 1)) := by
  have h2 : 2 ^ (7 * (i + 1)) = 128 * 2 ^ (7 * i) := by rw [Nat.mul_add, Nat.pow_add]; omega
  have : c.toNat % 128 * 2 ^ (7 * i) ≤ 127 * 2 ^ (7 * i) := Nat.mul_le_mul_right _ (by omega)
  omega
theorem ret_num {a : Int} {o : Option (Nat × Nat)} {x y : Nat} {b : Int} (h : some (x, y) = o) (ha : a = (x : Int)) (hb : b = (y : Int)) : Ending.returned (.tuple #[.int .u64 a, ei b]) = .returned (numV o) := by
  subst h; subst ha; subst hb; rfl
theorem ret_none {o : Option (Nat × Nat)} (h : none = o) : Ending.returned (.tuple #[.int .u64 0, ei 0]) = .returned (numV o) := by subst h; rfl
set_option maxRecDepth 100000 in
set_option maxHeartbeats 1000000 in
theorem numberC {w : World} {v : Value} {s : List UInt8} (hr : RdW w 1 v s.length (s.map byteV)) :
    Calls Tryz.prog 205 #[v] w fun e w' => e = .returned (numV (numF 0 0 s)) ∧ w = w' := by
  obtain ⟨hlen, A, c, rfl, hnc, hcm, hA⟩ := hr
  go_enter Tryz.func205, Tryz.ntmps205
  go_wp2
  go_loopw [4, 9] (fun vn vi wr => ∃ i n : Nat, vn = .int .u64 (n : Int) ∧ vi = .int .i64 (i : Int) ∧ i ≤ s.length ∧ i ≤ 9 ∧ n < 2 ^ (7 * i) ∧ numF i n (s.drop i) = numF 0 0 s ∧ wr = w) (fun _ vi _ => s.length - intN vi)
  case atStart => exact ⟨0, 0, rfl, rfl, by omega, by omega, by simp, rfl, rfl⟩
  case round =>
    obtain ⟨i, n, rfl, rfl, hi, h9, hn, he, rfl⟩ := hrel
    by_cases hlt : i < s.length
    · obtain ⟨ad, rfl, hel⟩ := hA (by omega)
      obtain ⟨ch, hx⟩ : ∃ ch, s[i]? = some ch := ⟨_, List.getElem?_eq_getElem hlt⟩
      have hcell := hel i (byteV ch) (by simp [hx])
      have hd : s.drop i = ch :: s.drop (i + 1) := by
        rw [List.drop_eq_getElem_cons hlt]
        rw [List.getElem?_eq_getElem hlt] at hx
        rw [Option.some.inj hx]
      rw [hd, numF] at he
      clear hd hx hel hA
      have hc8 := ch.toNat_lt
      have hst := fun h => num_step (c := ch) h9 hn h
      have hle := num_le (c := ch) hn
      change wr.cell? (ad.add i) = some (.int .u8 (ch.toNat : Int)) at hcell
      generalize hk : ch.toNat = k at *
      clear hk
      by_cases hi9 : i = 9
      · subst hi9
        have hcell9 : wr.cell? ⟨ad.block, ad.off + 9, none⟩ = some (.int .u8 (k : Int)) := by simpa [Addr.add] using hcell
        by_cases hk1 : 1 < k
        · rw [if_pos (.inl ⟨rfl, hk1⟩)] at he
          have q2 : 1 < (k : Int) := by omega
          go_wp2
          refine bodyPost_ret (v := .tuple #[.int .u64 0, ei 0]) (by simp [results, Tryz.results205, go_sem]) rfl ?_
          exact ⟨ret_none he, rfl⟩
        · have q2 : ¬ 1 < (k : Int) := by omega
          by_cases hk0 : k = 0
          · rw [if_pos (.inr ⟨by omega, hk0⟩)] at he
            have q4 : ((k : Int) == 0) = true := by simp [hk0]
            go_wp2
            refine bodyPost_ret (v := .tuple #[.int .u64 0, ei 0]) (by simp [results, Tryz.results205, go_sem]) rfl ?_
            exact ⟨ret_none he, rfl⟩
          · rw [if_neg (by omega), if_pos (by omega)] at he
            have q4 : ((k : Int) == 0) = false := by simp [hk0]
            have q5 : (k : Int) < 128 := by omega
            have h : bits BinOp.or IntKind.u64 (n : Int) (IntKind.u64.wrap (IntKind.u64.wrap (bits BinOp.andNot IntKind.u8 (k : Int) 128) * 9223372036854775808)) = ((n + k * 2 ^ (7 * 9) : Nat) : Int) := by
              have hm : k % 128 = k := by omega
              rw [← hm]
              simpa [hm] using hst (by omega)
            go_wp2
            refine bodyPost_ret (v := .tuple #[.int .u64 ((n + k * 2 ^ (7 * 9) : Nat) : Int), .int .i64 10]) (by simp [results, Tryz.results205, go_sem]) rfl ?_
            exact ⟨ret_num he rfl rfl, rfl⟩
      · have q1 : ((i : Int) == 9) = false := by simp; omega
        by_cases hi0 : 0 < i
        · have q3 : 0 < (i : Int) := by omega
          by_cases hk0 : k = 0
          · rw [if_pos (.inr ⟨by omega, hk0⟩)] at he
            have q4 : ((k : Int) == 0) = true := by simp [hk0]
            go_wp2
            refine bodyPost_ret (v := .tuple #[.int .u64 0, ei 0]) (by simp [results, Tryz.results205, go_sem]) rfl ?_
            exact ⟨ret_none he, rfl⟩
          · have q4 : ((k : Int) == 0) = false := by simp [hk0]
            have h := hst (by omega)
            by_cases hk8 : k < 128
            · rw [if_neg (by omega), if_pos hk8] at he
              have q5 : (k : Int) < 128 := by omega
              have hm : k % 128 = k := by omega
              rw [hm] at h
              go_wp2
              refine bodyPost_ret (v := .tuple #[.int .u64 ((n + k * 2 ^ (7 * i) : Nat) : Int), .int .i64 (i + 1 : Nat)]) (by simp [results, Tryz.results205, go_sem]) rfl ?_
              exact ⟨ret_num he rfl rfl, rfl⟩
            · rw [if_neg (by omega), if_neg hk8] at he
              have q5 : ¬ (k : Int) < 128 := by omega
              have hm : k % 128 = k - 128 := by omega
              rw [hm] at h hle
              go_wp2
              exact ⟨⟨i + 1, _, by simp, by simp, by omega, by omega, hle, he, trivial⟩, by simp only [intN]; omega⟩
        · have q3 : ¬ 0 < (i : Int) := by omega
          have h := hst (by omega)
          by_cases hk8 : k < 128
          · rw [if_neg (by omega), if_pos hk8] at he
            have q5 : (k : Int) < 128 := by omega
            have hm : k % 128 = k := by omega
            rw [hm] at h
            go_wp2
            refine bodyPost_ret (v := .tuple #[.int .u64 ((n + k * 2 ^ (7 * i) : Nat) : Int), .int .i64 (i + 1 : Nat)]) (by simp [results, Tryz.results205, go_sem]) rfl ?_
            exact ⟨ret_num he rfl rfl, rfl⟩
          · rw [if_neg (by omega), if_neg hk8] at he
            have q5 : ¬ (k : Int) < 128 := by omega
            have hm : k % 128 = k - 128 := by omega
            rw [hm] at h hle
            go_wp2
            exact ⟨⟨i + 1, _, by simp, by simp, by omega, by omega, hle, he, trivial⟩, by simp only [intN]; omega⟩
    · have : i = s.length := by omega
      subst this
      rw [List.drop_length] at he
      go_wp2
      refine bodyPost_ret (v := .tuple #[.int .u64 0, ei 0]) (by simp [results, Tryz.results205, go_sem]) rfl ?_
      have h0 : numF 0 0 s = none := by rw [← he]; simp [numF]
      rw [h0]
      exact ⟨rfl, rfl⟩
theorem encU_lt {n : Nat} (h : n < 128) : encU n = [UInt8.ofNat n] := by rw [encU, encN_lt h]; rfl
theorem encU_ge {n : Nat} (h : ¬ n < 128) : encU n = UInt8.ofNat (n % 128 + 128) :: encU (n / 128) := by rw [encU, encN_ge h]; rfl
theorem of8 {n : Nat} (h : n < 256) : (UInt8.ofNat n).toNat = n := by simp; omega
theorem pow7 (i : Nat) : 2 ^ (7 * (i + 1)) = 128 * 2 ^ (7 * i) := by rw [Nat.mul_add, Nat.pow_add]; omega
theorem pow64 {i : Nat} (h : i < 9) : 2 ^ (64 - 7 * i) = 128 * 2 ^ (64 - 7 * (i + 1)) := by
  have : 64 - 7 * i = 64 - 7 * (i + 1) + 7 := by omega
  rw [this, Nat.pow_add]; omega
theorem numF_enc (r : List UInt8) : ∀ (n i acc : Nat), i ≤ 9 → n < 2 ^ (64 - 7 * i) → (0 < i → 0 < n) → numF i acc (encU n ++ r) = some (acc + n * 2 ^ (7 * i), i + (encU n).length) := by
  intro n
  induction n using Nat.strongRecOn with
  | _ n ih =>
    intro i acc hi hn h0
    have h9 : i = 9 → n < 2 := by rintro rfl; simpa using hn
    by_cases h : n < 128
    · rw [encU_lt h, List.singleton_append, numF, of8 (by omega), if_neg (by omega), if_pos h]; rfl
    · have hi8 : i < 9 := by omega
      have hc : (UInt8.ofNat (n % 128 + 128)).toNat = n % 128 + 128 := of8 (by omega)
      rw [encU_ge h, List.cons_append, numF, hc, if_neg (by omega), if_neg (by omega), ih (n / 128) (by omega) _ _ (by omega) (by rw [pow64 hi8] at hn; omega) (by omega)]
      have e1 : acc + (n % 128 + 128 - 128) * 2 ^ (7 * i) + n / 128 * 2 ^ (7 * (i + 1)) = acc + n * 2 ^ (7 * i) := by
        have e : n * 2 ^ (7 * i) = (n % 128) * 2 ^ (7 * i) + n / 128 * (128 * 2 ^ (7 * i)) := by
          rw [← Nat.mul_assoc, ← Nat.add_mul]
          congr 1
          omega
        rw [pow7, e]
        have : n % 128 + 128 - 128 = n % 128 := by omega
        rw [this]; omega
      rw [e1, List.length_cons]
      congr 2
      omega
theorem numF_some : ∀ (s : List UInt8) (i acc m k : Nat), numF i acc s = some (m, k) → i ≤ 9 →
    ∃ n r, n < 2 ^ (64 - 7 * i) ∧ (0 < i → 0 < n) ∧ m = acc + n * 2 ^ (7 * i) ∧ k = i + (encU n).length ∧ s = encU n ++ r := by
  intro s
  induction s with
  | nil => intro i acc m k h; simp [numF] at h
  | cons c r ih =>
    intro i acc m k h hi
    rw [numF] at h
    have hc := c.toNat_lt
    split at h
    · cases h
    · rename_i hb
      split at h
      · rename_i h8
        cases h
        refine ⟨c.toNat, r, ?_, by omega, rfl, ?_, ?_⟩
        · by_cases h9 : i = 9
          · subst h9; show c.toNat < 2; omega
          · have : 2 ^ 7 ≤ 2 ^ (64 - 7 * i) := Nat.pow_le_pow_right (by omega) (by omega)
            omega
        · rw [encU_lt h8]; rfl
        · rw [encU_lt h8]; simp
      · rename_i h8
        have hi8 : i < 9 := by omega
        obtain ⟨n, r', h1, h2, h3, h4, h5⟩ := ih _ _ _ _ h (by omega)
        have hn := h2 (by omega)
        have hm : (128 * n + (c.toNat - 128)) % 128 = c.toNat - 128 := by omega
        have hd : (128 * n + (c.toNat - 128)) / 128 = n := by omega
        have hge : ¬ 128 * n + (c.toNat - 128) < 128 := by omega
        have ec : UInt8.ofNat (c.toNat - 128 + 128) = c := by
          have : c.toNat - 128 + 128 = c.toNat := by omega
          rw [this]; simp
        refine ⟨128 * n + (c.toNat - 128), r', ?_, by omega, ?_, ?_, ?_⟩
        · rw [pow64 hi8]; omega
        · rw [h3, pow7, Nat.add_mul, ← Nat.mul_assoc, Nat.mul_comm n 128]; omega
        · rw [encU_ge hge, hd, h4, List.length_cons]; omega
        · rw [encU_ge hge, hm, hd, ec, h5]; rfl
/-- What a reader reads as a number. -/
def rdNum (s : List UInt8) : Option (Nat × List UInt8) := (numF 0 0 s).map fun x => (x.1, s.drop x.2)
theorem rdNum_enc {n : Nat} (h : n < 18446744073709551616) (r : List UInt8) : rdNum (encU n ++ r) = some (n, r) := by
  rw [rdNum, numF_enc r n 0 0 (by omega) h (by omega)]
  simp
theorem rdNum_some {s : List UInt8} {n : Nat} {r : List UInt8} (h : rdNum s = some (n, r)) : n < 18446744073709551616 ∧ s = encU n ++ r ∧ numF 0 0 s = some (n, (encU n).length) := by
  unfold rdNum at h
  obtain ⟨⟨m, k⟩, h1, h2⟩ := Option.map_eq_some_iff.1 h
  obtain ⟨n', r', a1, a2, a3, a4, a5⟩ := numF_some _ _ _ _ _ h1 (by omega)
  simp at h2 a3 a4
  obtain ⟨e1, e2⟩ := h2
  subst e1; subst a3; subst a4
  have : r' = r := by rw [← e2, a5]; simp
  subst this
  exact ⟨a1, a5, h1⟩
theorem rdNum_none {s : List UInt8} : rdNum s = none ↔ numF 0 0 s = none := by
  unfold rdNum; simp
theorem rdNum_uniq {s : List UInt8} {n : Nat} {r : List UInt8} (hn : n < 18446744073709551616) (h : s = encU n ++ r) : rdNum s = some (n, r) := by rw [h]; exact rdNum_enc hn r
end Sk
