/- A range over a map, in terms of what is owned. -/
import Derived.Test.YtpgbfoeejiamjaaGreatDoorK01
import Derived.Maps.Range
import Derived.Test.YtpgbfoeejiamjaaGreatDoorProg
import Derived.Maps.AppendAt
import Derived.Deep.AppendLies
import Derived.Lib.AppendStr
import Derived.Lib.LazyBuf
import Derived.RangeFuncNested
import Derived.RangeFuncBound
import Derived.RangeFuncCalls
import Derived.RangeFuncLeaves
import Derived.Shelf.Abstract
import Derived.OwnWalkIn
import Derived.TacticsInMore
import Derived.LoopNIn
import Derived.LoopIn
import Derived.Shelf.RegionOpen
set_option linter.all false
set_option linter.unusedVariables false
set_option linter.unusedSimpArgs false
set_option linter.unusedSectionVars false
namespace Sk
open Go Go.RowKit
open Go.ChangeMaps (setBlock)
/-- A range over the map in block b stands in block r: these keys are left. -/
def rngA {K V : Type} (ke : K → Value) (ve : K → V → Value) (good : K → Prop) (r b : Nat) (f : K → Option V) (left : List K) : Asn :=
  exi fun p : (Array MapEntry × Nat) × (Nat × Array Nat × Nat) => grp [pur (MRep ke ve p.1.1 p.1.2 f ∧ (∀ k v, f k = some v → good k) ∧ (∀ x ∈ p.1.1.toList, x.born < p.2.1) ∧ p.2.1 ≤ p.2.2.2 ∧ p.2.1 ≤ p.1.2 ∧ left.Nodup ∧ (∀ k ∈ left, f k ≠ none) ∧ (∀ x ∈ p.1.1.toList, ∀ k, x.key = ke k → (x.born ∉ p.2.2.1.toList ↔ k ∈ left))),
    blk r (.mapIter (some b) p.2.1 p.2.2.1 p.2.2.2), blk b (.map p.1.1 p.1.2)]
section
variable {K V : Type} {ke : K → Value} {ve : K → V → Value} {good : K → Prop} {f : K → Option V} {P : Program} {kt t e : TypeId} {W w : World} {b r : Nat} {L : List Asn} {z : Value} {left : List K}
theorem pw_born {es : List MapEntry} (h : es.Pairwise (fun a b => a.born ≠ b.born)) {x y : MapEntry} (hx : x ∈ es) (hy : y ∈ es) (e : x.born = y.born) : x = y := by
  induction es with
  | nil => cases hx
  | cons a es ih =>
    rw [List.pairwise_cons] at h
    rcases List.mem_cons.1 hx with e1 | hx' <;> rcases List.mem_cons.1 hy with e2 | hy'
    · rw [e1, e2]
    · subst e1; exact absurd e (h.1 _ hy')
    · subst e2; exact absurd e.symm (h.1 _ hx')
    · exact ih h.2 hx' hy'
theorem pw_key {es : List MapEntry} (h : es.Pairwise (fun a b => a.key ≠ b.key)) {x y : MapEntry} (hx : x ∈ es) (hy : y ∈ es) (e : x.key = y.key) : x = y := by
  induction es with
  | nil => cases hx
  | cons a es ih =>
    rw [List.pairwise_cons] at h
    rcases List.mem_cons.1 hx with e1 | hx' <;> rcases List.mem_cons.1 hy with e2 | hy'
    · rw [e1, e2]
    · subst e1; exact absurd e (h.1 _ hy')
    · subst e2; exact absurd e.symm (h.1 _ hx')
    · exact ih h.2 hx' hy'
theorem keys_list {es : List MapEntry} (h : ∀ x ∈ es, ∃ k : K, x.key = ke k) (hd : es.Pairwise (fun a b => a.key ≠ b.key)) : ∃ ks : List K, ks.map ke = es.map (·.key) ∧ ks.Nodup := by
  have h1 : ∃ ks : List K, ks.map ke = es.map (·.key) := by
    clear hd
    induction es with
    | nil => exact ⟨[], rfl⟩
    | cons a es ih =>
      obtain ⟨k, hk⟩ := h a (by simp)
      obtain ⟨ks, hks⟩ := ih (fun x hx => h x (by simp [hx]))
      exact ⟨k :: ks, by simp [hks, hk]⟩
  obtain ⟨ks, hks⟩ := h1
  refine ⟨ks, hks, ?_⟩
  have hn : (es.map (·.key)).Pairwise (· ≠ ·) := by rw [List.pairwise_map]; exact hd
  rw [← hks, List.pairwise_map] at hn
  exact hn.imp (fun h e => h (by rw [e]))
theorem Own.rng_open (H : Own W w (rngA ke ve good r b f left :: L)) : ∃ es ck since seen c0, MRep ke ve es ck f ∧ (∀ k v, f k = some v → good k) ∧ (∀ x ∈ es.toList, x.born < since) ∧ since ≤ c0 ∧ since ≤ ck ∧ left.Nodup ∧ (∀ k ∈ left, f k ≠ none) ∧
    (∀ x ∈ es.toList, ∀ k, x.key = ke k → (x.born ∉ seen.toList ↔ k ∈ left)) ∧ Own W w (blk r (.mapIter (some b) since seen c0) :: blk b (.map es ck) :: L) := by
  obtain ⟨⟨⟨es, ck⟩, since, seen, c0⟩, H⟩ := Own.exi_iff.1 H
  obtain ⟨⟨h1, h2, h3, h4, h5, h6, h7, h8⟩, H⟩ := Own.pur_iff.1 (Own.grp_iff.1 H)
  exact ⟨es, ck, since, seen, c0, h1, h2, h3, h4, h5, h6, h7, h8, H⟩
theorem Own.rng_shut {es : Array MapEntry} {ck since : Nat} {seen : Array Nat} {c0 : Nat} (h1 : MRep ke ve es ck f) (h2 : ∀ k v, f k = some v → good k) (h3 : ∀ x ∈ es.toList, x.born < since) (h4 : since ≤ c0) (h5 : since ≤ ck) (h6 : left.Nodup) (h7 : ∀ k ∈ left, f k ≠ none)
    (h8 : ∀ x ∈ es.toList, ∀ k, x.key = ke k → (x.born ∉ seen.toList ↔ k ∈ left)) (H : Own W w (blk r (.mapIter (some b) since seen c0) :: blk b (.map es ck) :: L)) : Own W w (rngA ke ve good r b f left :: L) :=
  Own.exi_iff.2 ⟨⟨⟨es, ck⟩, since, seen, c0⟩, Own.grp_iff.2 (Own.pur_iff.2 ⟨⟨h1, h2, h3, h4, h5, h6, h7, h8⟩, H⟩)⟩
theorem Own.rng_end (H : Own W w (rngA ke ve good r b f left :: L)) : Own W w (mapA ke ve good b f :: L) := by
  obtain ⟨es, ck, since, seen, c0, h1, h2, h3, h4, h5, h6, h7, h8, H⟩ := H.rng_open
  exact H.drop.map_shut h1 h2
/-- The statement's beginning. -/
theorem Own.range (H : Own W w (mapA ke ve good b f :: L)) (T : MapT P t kt e ke good z) :
    ∃ left w', (∀ k, k ∈ left ↔ f k ≠ none) ∧ (Instr.range t (.map (some b))).run P w = .ok (ptr w.heap.size) w' ∧ Own W w' (rngA ke ve good w.heap.size b f left :: L) := by
  obtain ⟨es, ck, M, g, H⟩ := H.map_open
  obtain ⟨ks, hks, hn⟩ := keys_list (ke := ke) (fun x hx => by obtain ⟨k, v, h, _⟩ := M.keys x hx; exact ⟨k, h⟩) M.dis
  have hmem : ∀ k, k ∈ ks ↔ f k ≠ none := by
    intro k
    constructor
    · intro hk
      have : ke k ∈ es.toList.map (·.key) := by rw [← hks]; exact List.mem_map_of_mem hk
      obtain ⟨x, hx, hxk⟩ := List.mem_map.1 this
      obtain ⟨v, hv, _⟩ := M.val T.inj hx hxk
      rw [hv]; simp
    · intro hk
      cases hf : f k with
      | none => exact absurd hf hk
      | some v =>
        obtain ⟨x, hx, hxk⟩ := M.all k v hf
        have : ke k ∈ ks.map ke := by rw [hks, ← hxk]; exact List.mem_map_of_mem hx
        obtain ⟨k', hk', he⟩ := List.mem_map.1 this
        rw [T.inj _ _ he] at hk'; exact hk'
  refine ⟨ks, w.alloc (.mapIter (some b) ck #[] ck), hmem, ?_, ?_⟩
  · simp [Instr.range, run_underlying T.type, MapKept.run_getObj_map H.has, Result.andThen, go_sem, ptr]
  · refine Own.rng_shut M g M.low (Nat.le_refl _) (Nat.le_refl _) hn (fun k hk => (hmem k).1 hk) ?_ (H.alloc _)
    intro x hx k hk
    obtain ⟨v, hv, _⟩ := M.val T.inj hx hk
    simp [hmem, hv]
variable [DecidableEq K]
/-- The next round, or the end. -/
theorem Own.next (H : Own W w (rngA ke ve good r b f left :: L)) (T : MapT P t kt e ke good z) (ty : TypeId) :
    (left = [] ∧ (Instr.next (ptr r) false ty).run P w = .ok (.tuple #[.bool false]) w) ∨
    ∃ k v w', k ∈ left ∧ f k = some v ∧ (Instr.next (ptr r) false ty).run P w = .ok (.tuple #[.bool true, ke k, ve k v]) w' ∧ (Instr.entry (ptr r)).run P w' = .ok (.tuple #[ke k, ve k v]) w' ∧ w'.heap.size = w.heap.size ∧ Own W w' (rngA ke ve good r b f (left.erase k) :: L) := by
  obtain ⟨es, ck, since, seen, c0, M, g, h3, h4, h5, h6, h7, h8, H⟩ := H.rng_open
  rcases run_next_at (P := P) w ty r b since c0 seen es ck H.has H.front2.has h3 h4 with ⟨h0, hrun⟩ | ⟨x, hx, w1, hal, hrun⟩
  · refine .inl ⟨?_, hrun⟩
    cases left with
    | nil => rfl
    | cons k ks =>
      exfalso
      cases hf : f k with
      | none => exact h7 k (by simp) hf
      | some v =>
        obtain ⟨x, hx, hxk⟩ := M.all k v hf
        have hns := (h8 x hx k hxk).2 (by simp)
        have hem : x ∈ leftOf es seen := by
          unfold leftOf
          simp only [Array.mem_filter]
          exact ⟨by simpa using hx, by simpa using hns⟩
        have := Array.size_pos_of_mem hem
        omega
  · have hxe : x ∈ es.toList ∧ x.born ∉ seen.toList := by
      unfold leftOf at hx
      simp only [Array.mem_toList_iff, Array.mem_filter] at hx
      exact ⟨by simpa using hx.1, by simpa using hx.2⟩
    obtain ⟨hxm, hxs⟩ := hxe
    obtain ⟨k, v, hk, hf, hv⟩ := M.keys x hxm
    have hkl := (h8 x hxm k hk).1 hxs
    have Hw1 : Own W w1 (blk r (.mapIter (some b) since seen c0) :: blk b (.map es ck) :: L) := by
      rcases hal with rfl | rfl
      · exact H
      · exact H.drew
    have H2 := Hw1.setBlock (.mapIter (some b) since (seen.push x.born) ck)
    refine .inr ⟨k, v, _, hkl, hf, by rw [hrun, hk, hv], ?_, ?_, ?_⟩
    · rw [← hk, ← hv]
      refine run_entry_at _ r b since seen es ck x H2.has H2.front2.has hxm ?_
      rw [List.nodup_iff_pairwise_ne, List.pairwise_map]
      exact M.born
    · rcases hal with rfl | rfl <;> simp [ChangeMaps.setBlock]
    · refine Own.rng_shut M g h3 h5 h5 (h6.erase k) (fun k' hk' => h7 k' (List.mem_of_mem_erase hk')) ?_ H2
      intro y hy k' hk'
      rw [List.Nodup.mem_erase_iff h6]
      have h := h8 y hy k' hk'
      simp only [Array.toList_push, List.mem_append, List.mem_singleton, not_or]
      constructor
      · rintro ⟨a, c⟩
        refine ⟨fun e => c ?_, h.1 a⟩
        subst e
        rw [pw_key M.dis hy hxm (by rw [hk', hk])]
      · rintro ⟨a, c⟩
        refine ⟨h.2 c, fun e => a ?_⟩
        have := pw_born M.born hy hxm e
        subst this
        exact T.inj _ _ (hk'.symm.trans hk)
/-- A key is struck in the midst of a range. -/
theorem Own.rng_delete (H : Own W w (rngA ke ve good r b f left :: L)) (T : MapT P t kt e ke good z) {k : K} (hk : good k) (ty : TypeId) :
    ∃ w', (Builtin.delete_ #[t, kt] ty #[.map (some b), ke k]).run P w = .ok (.tuple #[]) w' ∧ Own W w' (rngA ke ve good r b (fset f k none) (left.erase k) :: L) := by
  obtain ⟨es, ck, since, seen, c0, M, g, h3, h4, h5, h6, h7, h8, H⟩ := H.rng_open
  obtain ⟨l, hl⟩ := T.key k hk
  obtain ⟨es', hrun, M', hin, hout⟩ := run_delete_rep (ty := ty) T.keyed T.type H.front2.has M T.inj (fun k v h => T.key k (g k v h)) hl
  refine ⟨_, hrun, Own.rng_shut M' ?_ (fun x hx => h3 x (hin x hx)) h4 h5 (h6.erase k) ?_ ?_ (H.front2.setBlock (.map es' ck)).front2⟩
  · intro k' v' h
    by_cases hkk : k' = k
    · subst hkk; exact hk
    · exact g k' v' (by simpa [fset, hkk] using h)
  · intro k' hk'
    rw [List.Nodup.mem_erase_iff h6] at hk'
    simp [fset, hk'.1, h7 k' hk'.2]
  · intro y hy k' hk'
    have h := h8 y (hin y hy) k' hk'
    rw [List.Nodup.mem_erase_iff h6, h]
    have : k' ≠ k := by
      rintro rfl
      obtain ⟨v, hv, _⟩ := M'.val T.inj hy hk'
      simp [fset] at hv
    simp [this]
/-- How many keys are left, read off the world. -/
def leftN (w : World) (r : Nat) : Nat := match w.heap[r]? with
  | some (.mapIter (some b) _ seen _) => (match w.heap[b]? with | some (.map es _) => (leftOf es seen).size | _ => 0)
  | _ => 0
theorem Own.rng_len (H : Own W w (rngA ke ve good r b f left :: L)) (T : MapT P t kt e ke good z) : leftN w r = left.length := by
  obtain ⟨es, ck, since, seen, c0, M, g, h3, h4, h5, h6, h7, h8, H⟩ := H.rng_open
  have n1 : ((leftOf es seen).toList.map (·.key)).Nodup := by
    rw [List.nodup_iff_pairwise_ne, List.pairwise_map]
    unfold leftOf
    rw [Array.toList_filter]
    exact M.dis.sublist (List.filter_sublist)
  have n2 : (left.map ke).Nodup := by
    rw [List.nodup_iff_pairwise_ne, List.pairwise_map]
    exact h6.imp (fun h e => h (T.inj _ _ e))
  have hp : ((leftOf es seen).toList.map (·.key)).Perm (left.map ke) := by
    rw [List.perm_ext_iff_of_nodup n1 n2]
    intro v
    simp only [List.mem_map]
    constructor
    · rintro ⟨x, hx, rfl⟩
      unfold leftOf at hx
      simp only [Array.mem_toList_iff, Array.mem_filter] at hx
      obtain ⟨k, v, hk, _⟩ := M.keys x (by simpa using hx.1)
      exact ⟨k, (h8 x (by simpa using hx.1) k hk).1 (by simpa using hx.2), hk.symm⟩
    · rintro ⟨k, hk, rfl⟩
      cases hf : f k with
      | none => exact absurd hf (h7 k hk)
      | some v =>
        obtain ⟨x, hx, hxk⟩ := M.all k v hf
        refine ⟨x, ?_, hxk⟩
        unfold leftOf
        simp only [Array.mem_toList_iff, Array.mem_filter]
        exact ⟨by simpa using hx, by simpa using (h8 x hx k hxk).2 hk⟩
  have hl := hp.length_eq
  simp only [List.length_map, Array.length_toList] at hl
  simp only [leftN, H.has, H.front2.has, hl]
end
/-- The entries, but those below. -/
def cutF {α : Type} (f : Int → Option α) (u : Int) : Int → Option α := fun k => if k < u then none else f k
end Sk
/- Ballots: what the functions of package ballot compute. -/
namespace Sk
open Go Go.RowKit Go.Proofs
structure Bal where
  r : Int
  n : Int
  deriving DecidableEq
abbrev Bal.zero : Bal := ⟨0, 0⟩
@[reducible] def Bal.v (b : Bal) : Value := .agg #[.int .i64 b.r, .int .i64 b.n]
@[reducible] def ei (e : Int) : Value := .int .i64 e
/-- ballot.Check says yes. -/
def Bal.ok (b : Bal) (n : Int) : Prop := 1 ≤ n ∧ n ≤ 7 ∧ (b.r = 0 ∧ b.n = 0 ∨ 1 ≤ b.r ∧ b.r ≤ 1073741824 ∧ 0 ≤ b.n ∧ b.n < n)
instance balOkDec (b : Bal) (n : Int) : Decidable (b.ok n) := by unfold Bal.ok; infer_instance
def Bal.check (b : Bal) (n : Int) : Int := if b.ok n then 0 else 2
def cmpI (a b : Int) : Int := if a < b then -1 else if b < a then 1 else 0
def firstOf (x y : Int) : Int := if x = 0 then y else x
def Bal.order (a b : Bal) : Int := firstOf (cmpI a.r b.r) (cmpI a.n b.n)
theorem Bal.check_ok {b : Bal} {n : Int} (h : b.ok n) : b.check n = 0 := if_pos h
theorem Bal.check_no {b : Bal} {n : Int} (h : ¬ b.ok n) : b.check n = 2 := if_neg h
def balEq (a b c d : Int) : Bool := decide (a = c ∧ b = d)
theorem balEq_yes {x y : Bal} (h : x = y) : balEq x.r x.n y.r y.n = true := by subst h; simp [balEq]
theorem balEq_no {x y : Bal} (h : x ≠ y) : balEq x.r x.n y.r y.n = false := by
  cases x; cases y; simpa [balEq] using h
theorem run_eql_bal (w : World) (a b c d : Int) : (binOp .eql 23 (.agg #[.int .i64 a, .int .i64 b]) (.agg #[.int .i64 c, .int .i64 d])).run Tryz.prog w = Result.ok (.bool (balEq a b c d)) w := by
  by_cases h1 : a = c
  · by_cases h2 : b = d
    · subst h1; subst h2
      go_simp
      simp [balEq]
    · subst h1
      go_simp
      simp [balEq, h2]
  · go_simp
    simp [balEq, h1]
theorem run_neq_bal (w : World) (a b c d : Int) : (binOp .neq 23 (.agg #[.int .i64 a, .int .i64 b]) (.agg #[.int .i64 c, .int .i64 d])).run Tryz.prog w = Result.ok (.bool (!balEq a b c d)) w := by
  by_cases h1 : a = c
  · by_cases h2 : b = d
    · subst h1; subst h2
      go_simp
      simp [balEq]
    · subst h1
      go_simp
      simp [balEq, h2]
  · go_simp
    simp [balEq, h1]
def intN : Value → Nat | .int _ k => k.toNat | _ => 0
theorem ret_ei {a b : Int} (h : b = a) : Ending.returned (ei a) = .returned (ei b) := by rw [h]
theorem ret_bool {a b : Bool} (h : b = a) : Ending.returned (.bool a) = .returned (.bool b) := by rw [h]
set_option maxHeartbeats 400000 in
theorem cmpInt (a b : Int) (w : World) : Calls Tryz.prog 182 #[.int .i64 a, .int .i64 b] w fun e w' => e = .returned (ei (cmpI a b)) ∧ w = w' := by
  go_enter Tryz.func182, Tryz.ntmps182
  go_wp2
  all_goals (go_ret; refine ⟨?_, rfl⟩)
  all_goals first | exact ret_ei (by unfold cmpI; rw [if_pos (by omega)]) | exact ret_ei (by unfold cmpI; rw [if_neg (by omega), if_pos (by omega)]) | exact ret_ei (by unfold cmpI; rw [if_neg (by omega), if_neg (by omega)])
set_option maxHeartbeats 1000000 in
theorem balCheck (b : Bal) (n : Int) (w : World) : Calls Tryz.prog 147 #[b.v, .int .i64 n] w fun e w' => e = .returned (ei (b.check n)) ∧ Bel w w' := by
  go_enter Tryz.func147, Tryz.ntmps147
  go_wp2
  all_goals (go_ret; refine ⟨?_, (Bel.refl _).alloc _⟩)
  all_goals first | exact ret_ei (Bal.check_ok (by unfold Bal.ok; omega)) | exact ret_ei (Bal.check_no (by unfold Bal.ok; omega))
theorem cmpStill (a b : Int) (w : World) : Calls Tryz.prog 182 #[.int .i64 a, .int .i64 b] w fun e w' => e = .returned (ei (cmpI a b)) ∧ w' = w :=
  (cmpInt a b w).mono fun _ _ ⟨h, k⟩ => ⟨h, k.symm⟩
set_option maxHeartbeats 1000000 in
theorem firstInt (x y : Int) (b c : Nat) (w : World) (h0 : w.cell? ⟨b, 0, none⟩ = some (.int .i64 x)) (h1 : w.cell? ⟨b, 1, none⟩ = some (.int .i64 y)) :
    Calls Tryz.prog 181 #[.slice (some ⟨b, 0, none⟩) 2 c] w fun e w' => e = .returned (ei (firstOf x y)) ∧ Bel w w' := by
  by_cases hx : x = 0
  · subst hx
    by_cases hy : y = 0
    · subst hy
      go_enter Tryz.func181, Tryz.ntmps181
      go_wp2
      refine wp_loop_rounds 3 ?_
      rw [rounds_succ]
      go_wp2
      rw [rounds_succ]
      go_wp2
      rw [rounds_succ]
      go_wp2
      go_ret
      exact ⟨ret_ei (by simp [firstOf]), Bel.refl _⟩
    · have hy' : ((y : Int) != 0) = true := by simpa using hy
      go_enter Tryz.func181, Tryz.ntmps181
      go_wp2
      refine wp_loop_rounds 3 ?_
      rw [rounds_succ]
      go_wp2
      rw [rounds_succ]
      go_wp2
      go_ret
      exact ⟨ret_ei (by simp [firstOf]), Bel.refl _⟩
  · have hx' : ((x : Int) != 0) = true := by simpa using hx
    go_enter Tryz.func181, Tryz.ntmps181
    go_wp2
    refine wp_loop_rounds 3 ?_
    rw [rounds_succ]
    go_wp2
    go_ret
    exact ⟨ret_ei (by simp [firstOf, hx]), Bel.refl _⟩
set_option maxRecDepth 100000 in
set_option maxHeartbeats 1000000 in
theorem balOrder (a b : Bal) (w : World) : Calls Tryz.prog 118 #[a.v, b.v] w fun e w' => e = .returned (ei (a.order b)) ∧ Bel w w' := by
  go_enter Tryz.func118, Tryz.ntmps118
  go_wp2_with fail
  refine wp_still_tail 10 (by kernel_rfl) (by kernel_rfl) ?_
  simp only [List.take_succ_cons, List.take_zero, List.drop_succ_cons, List.drop_zero]
  repeat still_step
  still_call (cmpStill _ _ _)
  repeat still_step
  still_call (cmpStill _ _ _)
  refine wpStill_nil ?_
  go_wp2_with fail
  refine (firstInt (cmpI a.r b.r) (cmpI a.n b.n) _ _ _ ?h0 ?h1).mono ?_
  case h0 => go_simp
  case h1 => go_simp
  rintro e w1 ⟨rfl, hb⟩
  go_wp2_with fail
  go_ret
  refine ⟨ret_ei rfl, ?_⟩
  exact ((((Bel.refl _).alloc _).alloc _).alloc _).drew.trans hb
end Sk
/- Slices in memory: a row that is owned and may grow; a slice that is only read. -/
namespace Sk
open Go Go.RowKit
/-- A slice of n elements, size cells each, with spare capacity, whose block is owned. -/
def rowA (e : TypeId) (size : Nat) (v : Value) (n : Nat) (xs : List Value) : Asn :=
  ⟨fun h _ => xs.length = n * size ∧ ((v = .slice none 0 0 ∧ n = 0) ∨
    ∃ g cap cur, v = .slice (some ⟨g, 0, none⟩) n cap ∧ h g = some (.cells cur e (0, 0)) ∧ n ≤ cap ∧ cap ≤ maxLen ∧ cur.size = cap * size ∧ cur.toList.take (n * size) = xs),
   fun x _ ⟨h1, h2⟩ => ⟨h1, h2.imp id fun ⟨g, cap, cur, e1, e2, r⟩ => ⟨g, cap, cur, e1, x _ _ e2, r⟩⟩⟩
/-- In w the slice v reads as the cells xs. -/
structure RdW (w : World) (size : Nat) (v : Value) (n : Nat) (xs : List Value) : Prop where
  len : xs.length = n * size
  form : ∃ A c, v = .slice A n c ∧ n ≤ c ∧ c ≤ maxLen ∧ (0 < n → ∃ ad, A = some ad ∧ ∀ j u, xs[j]? = some u → w.cell? (ad.add j) = some u)
/-- A slice whose memory is not written any more. -/
def slA (size : Nat) (v : Value) (n : Nat) (xs : List Value) : Asn :=
  ⟨fun _ r => xs.length = n * size ∧ ∃ A c, v = .slice A n c ∧ n ≤ c ∧ c ≤ maxLen ∧ (0 < n → ∃ ad, A = some ad ∧ ∀ j u, xs[j]? = some u → ∃ cs t f, r (ad.add j).block = some (.cells cs t f) ∧ (ad.add j).spot = none ∧ cs[(ad.add j).off]? = some u),
   fun _ y ⟨h1, A, c, e1, e2, e3, e4⟩ => ⟨h1, A, c, e1, e2, e3, fun hn => by
     obtain ⟨ad, e5, e6⟩ := e4 hn
     exact ⟨ad, e5, fun j u hu => by obtain ⟨cs, t, f, k1, k2⟩ := e6 j u hu; exact ⟨cs, t, f, y _ _ k1, k2⟩⟩⟩⟩
structure SlT (P : Program) (t e : TypeId) (size bytes : Nat) : Prop where
  type : P.underlying t = some (.slice e)
  info : ∃ i z, P.info? e = some i ∧ i.zero = some z ∧ i.size = size ∧ i.bytes = bytes ∧ z.cells.size = size
  pos : 0 < size
theorem info_parts1 {P : Program} {t : TypeId} {z : Value} {size bytes : Nat} (h : (P.info? t).map (fun i => (i.zero, i.size, i.bytes)) = some (some z, size, bytes)) (hz : z.cells.size = size := by rfl) :
    ∃ i z, P.info? t = some i ∧ i.zero = some z ∧ i.size = size ∧ i.bytes = bytes ∧ z.cells.size = size := by
  obtain ⟨i, h1, h2, h3, h4⟩ := info_parts h
  exact ⟨i, z, h1, h2, h3, h4, hz⟩
theorem add_zero_block (g j : Nat) : (⟨g, 0, none⟩ : Addr).add j = ⟨g, j, none⟩ := by
  unfold Addr.add
  split
  · rename_i h; rw [h]
  · simp
theorem block_add (a : Addr) (n : Nat) : (a.add n).block = a.block := by unfold Addr.add; split <;> rfl
section
variable {W w w' : World} {L : List Asn} {e : TypeId} {size n m : Nat} {v : Value} {xs : List Value}
theorem RdW.bel (h : RdW w size v n xs) (hb : Bel w w') : RdW w' size v n xs := by
  obtain ⟨h1, A, c, e1, e2, e3, e4⟩ := h
  refine ⟨h1, A, c, e1, e2, e3, fun hn => ?_⟩
  obtain ⟨ad, e5, e6⟩ := e4 hn
  refine ⟨ad, e5, fun j u hu => ?_⟩
  have hc := e6 j u hu
  rw [Below.cell hb (World.block_lt_of_cell? _ _ hc)]
  exact hc
theorem RdW.drew (h : RdW w size v n xs) : RdW w.drew size v n xs := h.bel (Bel.refl _).drew
theorem RdW.alloc (h : RdW w size v n xs) (o : Obj) : RdW (w.alloc o) size v n xs := h.bel ((Bel.refl _).alloc o)
theorem RdW.nil (w : World) (size : Nat) : RdW w size (.slice none 0 0) 0 [] := ⟨by simp, none, 0, rfl, Nat.le_refl _, Nat.zero_le _, fun h => absurd h (by omega)⟩
theorem Own.row (H : Own W w (rowA e size v n xs :: L)) : w.ownsRow W.heap.size e size v n xs := by
  have hex := H.ex
  obtain ⟨h, r, d, a, b, hW, h1, h2, x1, x2, x3, ⟨hl, hA⟩, y⟩ := hex
  refine ⟨hl, ?_⟩
  rcases hA with hA | ⟨g, cap, cur, e1, e2, e3, e4, e5, e6⟩
  · exact .inl hA
  · refine .inr ⟨g, cap, cur, e1, ?_, a _ _ (x1 _ _ e2), e3, e4, e5, e6⟩
    have H' : Own W w (blk g (.cells cur e (0, 0)) :: L) := ⟨H.os, H.tape, H.output, H.size, h, r, d, a, b, hW, h1, h2, x1, x2, x3, e2, y⟩
    exact H'.ge
theorem Own.row_nil (H : Own W w L) (e : TypeId) (size : Nat) : Own W w (rowA e size (.slice none 0 0) 0 [] :: L) :=
  H.add fun _ _ => ⟨by simp, .inl ⟨rfl, rfl⟩⟩
theorem Own.row_cases (H : Own W w (rowA e size v n xs :: L)) : (v = .slice none 0 0 ∧ n = 0 ∧ xs = [] ∧ Own W w L) ∨
    ∃ g cap cur, v = .slice (some ⟨g, 0, none⟩) n cap ∧ n ≤ cap ∧ cap ≤ maxLen ∧ cur.size = cap * size ∧ cur.toList.take (n * size) = xs ∧ xs.length = n * size ∧ Own W w (blk g (.cells cur e (0, 0)) :: L) := by
  have hd := H.drop
  have hex := H.ex
  obtain ⟨h, r, d, a, b, hW, h1, h2, x1, x2, x3, ⟨hl, hA⟩, y⟩ := hex
  rcases hA with ⟨hA, h0⟩ | ⟨g, cap, cur, e1, e2, e3, e4, e5, e6⟩
  · subst h0
    exact .inl ⟨hA, rfl, List.eq_nil_of_length_eq_zero (by simpa using hl), hd⟩
  · exact .inr ⟨g, cap, cur, e1, e3, e4, e5, e6, hl, ⟨H.os, H.tape, H.output, H.size, h, r, d, a, b, hW, h1, h2, x1, x2, x3, e2, y⟩⟩
theorem Own.row_of_blk {g cap : Nat} {cur : Array Value} (H : Own W w (blk g (.cells cur e (0, 0)) :: L)) (h1 : n ≤ cap) (h2 : cap ≤ maxLen) (h3 : cur.size = cap * size) (h4 : cur.toList.take (n * size) = xs) :
    Own W w (rowA e size (.slice (some ⟨g, 0, none⟩) n cap) n xs :: L) :=
  H.imp1 fun _ _ hh => ⟨by rw [← h4, List.length_take, Array.length_toList, h3]; exact Nat.min_eq_left (Nat.mul_le_mul_right _ h1), .inr ⟨g, cap, cur, rfl, hh, h1, h2, h3, h4⟩⟩
theorem Own.row_rd (H : Own W w (rowA e size v n xs :: L)) : RdW w size v n xs := by
  rcases H.row_cases with ⟨rfl, rfl, rfl, _⟩ | ⟨g, cap, cur, rfl, h1, h2, h3, h4, h5, H⟩
  · exact RdW.nil _ _
  · refine ⟨h5, some ⟨g, 0, none⟩, cap, rfl, h1, h2, fun _ => ⟨_, rfl, fun j u hu => ?_⟩⟩
    have hb := H.has
    rw [← h4, List.getElem?_take] at hu
    split at hu
    · rw [add_zero_block]
      simpa [World.cell?, hb] using hu
    · cases hu
/-- Two blocks turn: one that was owned, and one that is new. -/
theorem Own.upd_take {b c : Nat} {o p : Obj} (H : Own W w (blk b o :: L)) (hg : w.grownBy w' (some b)) (hc : w.heap.size ≤ c) (hp : w'.heap[c]? = some p) : Own W w' (blk c p :: L) := by
  have hb : b < w'.heap.size := Nat.lt_of_lt_of_le H.lt hg.size
  have hqb : w'.heap[b]? = some w'.heap[b] := Array.getElem?_eq_getElem hb
  have H1 := H.upd hg hqb
  have hex := H1.ex
  obtain ⟨h, r, d, a, br, hW, h1, h2, x1, x2, x3, e, y⟩ := hex
  have old := H.ex
  -- block c is in neither part: it is not in the elder heap
  obtain ⟨h', r', d', a', br', hW', k1, k2, z1, z2, z3, e', y'⟩ := old
  have hcn : w.heap[c]? = none := Array.getElem?_eq_none hc
  have hbc : b ≠ c := by have := H.lt; omega
  have hk2 : k2 c = none := (z2.trans a').none hcn
  have hr' : r' c = none := br'.none hcn
  have keep : ∀ i q, i ≠ b → w.heap[i]? = some q → w'.heap[i]? = some q := fun i q hi hq => by
    have hlt := (Array.getElem?_eq_some_iff.1 hq).1
    rw [hg.block i hlt (by simpa using hi)]; exact hq
  have e1 : k1 b = some o := e'
  have hrb : r' b = none := (d' b).resolve_left (by rw [z1 _ _ e1]; simp)
  have hkb : k2 b = none := (z3 b).resolve_left (by rw [e1]; simp)
  refine ⟨H1.os, H1.tape, H1.output, H1.size, fun i => if i = c then some p else k2 i, r', ?_, ?_, ?_, hW', fun i => if i = c then some p else none, k2, ?_, ?_, ?_, by simp [Sk.blk], y'⟩
  · intro i
    by_cases hi : i = c
    · subst hi; exact .inr hr'
    · rcases (d'.mono z2 (Hle.refl _)) i with k | k
      · exact .inl (by simp [hi, k])
      · exact .inr k
  · intro i q hq
    by_cases hi : i = c
    · subst hi; simp at hq; subst hq; exact hp
    · simp [hi] at hq
      exact keep _ _ (by rintro rfl; rw [hkb] at hq; cases hq) (a' _ _ (z2 _ _ hq))
  · intro i q hq
    exact keep _ _ (by rintro rfl; rw [hrb] at hq; cases hq) (br' _ _ hq)
  · intro i q hq
    by_cases hi : i = c
    · simpa [hi] using hq
    · simp [hi] at hq
  · intro i q hq
    have hi : i ≠ c := by rintro rfl; rw [hk2] at hq; cases hq
    simp [hi, hq]
  · intro i
    by_cases hi : i = c
    · subst hi; exact .inr hk2
    · exact .inl (by simp [hi])
theorem Own.row_append {P : Program} {t : TypeId} {bytes : Nat} (H : Own W w (rowA e size v n xs :: L)) (T : SlT P t e size bytes) (ty : TypeId) {a : Addr} {c : Nat} {news : List Value} (hl : news.length = m * size)
    (hnews : ∀ j u, news[j]? = some u → w.cell? (a.add j) = some u) (h1 : ∀ u ∈ news, u.oneCell' = true) (h63 : n + m ≤ maxLen) (hbytes : (n + m) * bytes ≤ 140737488355328) :
    ∃ v' w', (Builtin.append_ #[t, t] ty #[v, .slice (some a) m c]).run P w = .ok v' w' ∧ Own W w' (rowA e size v' (n + m) (xs ++ news) :: L) := by
  obtain ⟨i, z, hi, hz, hs, hby, hzs⟩ := T.info
  have hown := H.row
  obtain ⟨v', w', hrun, h2, h3, h4, h5⟩ := run_append_own_at (ty := ty) (P := P) w W.heap.size t e i z size bytes T.type hi hz hs hby hzs T.pos v n xs hown a m c news hl hnews h1 h63 hbytes H.size
  refine ⟨v', w', hrun, ?_⟩
  obtain ⟨hl', hv'⟩ := h2
  rcases hv' with ⟨hv', hn0⟩ | ⟨g', cap', cur', hv', hg', hh', r1, r2, r3, r4⟩
  · -- nothing at all
    have hn : n = 0 := by omega
    have hm : m = 0 := by omega
    subst hn; subst hm
    have hx : xs ++ news = [] := List.eq_nil_of_length_eq_zero (by simpa using hl')
    rw [hx, hv']
    have hgr : Below w.heap.size w w' := by
      have hvn : v = .slice none 0 0 := (h4.1 hv').1
      subst hvn
      exact ⟨h3.os, h3.tape, h3.output, h3.size, fun k hk => h3.block k hk (by simp [Value.ownBlock])⟩
    exact (H.drop.grown hgr).row_nil e size
  · subst hv'
    rcases H.row_cases with ⟨rfl, hn, hx, H0⟩ | ⟨g, cap, cur, rfl, _, _, _, _, _, H0⟩
    · have hgr : Below w.heap.size w w' := ⟨h3.os, h3.tape, h3.output, h3.size, fun k hk => h3.block k hk (by simp [Value.ownBlock])⟩
      have hge : w.heap.size ≤ g' := by
        rcases h5 with h5 | h5
        · simp [Value.ownBlock] at h5
        · have : g' = w.heap.size := by simpa [Value.ownBlock] using h5
          omega
      exact (H0.take hgr hge hh').row_of_blk r1 r2 r3 r4
    · have h3' : w.grownBy w' (some g) := h3
      rcases h5 with h5 | h5
      · have : g' = g := by simpa [Value.ownBlock] using h5
        subst this
        exact (H0.upd h3' hh').row_of_blk r1 r2 r3 r4
      · have : g' = w.heap.size := by simpa [Value.ownBlock] using h5
        subst this
        exact (H0.upd_take h3' (Nat.le_refl _) hh').row_of_blk r1 r2 r3 r4
/-- .. from nothing: the slice stays. -/
theorem run_append_none {P : Program} {t e ty : TypeId} {size bytes : Nat} (T : SlT P t e size bytes) (H : Own W w (rowA e size v n xs :: L)) (c : Nat) :
    (Builtin.append_ #[t, t] ty #[v, .slice none 0 c]).run P w = .ok v w := by
  obtain ⟨i, z, hi, hz, hs, hby, hzs⟩ := T.info
  rcases H.row_cases with ⟨rfl, rfl, rfl, _⟩ | ⟨g, cap, cur, rfl, h1, h2, h3, h4, h5, H⟩
  · simp [Builtin.append_, run_underlying T.type, Go.sizeOf, typeInfo, hi, Builtin.lenOf, Builtin.firstCells]
  · simp [Builtin.append_, run_underlying T.type, Go.sizeOf, typeInfo, hi, Builtin.lenOf, Builtin.firstCells, h1, storeCells]
/-- The built-in append, kept folded in a walk. -/
def appendSem (ts : Array TypeId) (ty : TypeId) (args : Array Value) : Sem Value := Builtin.append_ ts ty args
theorem append_hide (ts : Array TypeId) (ty : TypeId) (args : Array Value) : Builtin.append_ ts ty args = appendSem ts ty args := rfl
/-- append, whatever is read at the source. -/
theorem Own.row_append_rd {P : Program} {t : TypeId} {bytes : Nat} (H : Own W w (rowA e size v n xs :: L)) (T : SlT P t e size bytes) (ty : TypeId) {x : Value} {news : List Value}
    (hr : RdW w size x m news) (h1 : ∀ u ∈ news, u.oneCell' = true) (h63 : n + m ≤ maxLen) (hbytes : (n + m) * bytes ≤ 140737488355328) :
    ∃ v' w', (Builtin.append_ #[t, t] ty #[v, x]).run P w = .ok v' w' ∧ Own W w' (rowA e size v' (n + m) (xs ++ news) :: L) := by
  obtain ⟨hl, A, c, rfl, hc, hm, hA⟩ := hr
  rcases A with _ | ad
  · have hm0 : m = 0 := by
      rcases Nat.eq_zero_or_pos m with h | h
      · exact h
      · obtain ⟨_, h, _⟩ := hA h; cases h
    subst hm0
    have hx : news = [] := List.eq_nil_of_length_eq_zero (by simpa using hl)
    subst hx
    exact ⟨v, w, run_append_none T H c, by simpa using H⟩
  · refine H.row_append T ty hl (fun j u hu => ?_) h1 h63 hbytes
    rcases Nat.eq_zero_or_pos m with h | h
    · subst h
      have hx : news = [] := List.eq_nil_of_length_eq_zero (by simpa using hl)
      subst hx; simp at hu
    · obtain ⟨ad', e1, e2⟩ := hA h
      cases e1; exact e2 j u hu
/-- An owned row is given up to be read only. -/
theorem Own.row_freeze (H : Own W w (rowA e size v n xs :: L)) : Own W w (slA size v n xs :: L) := by
  rcases H.row_cases with ⟨rfl, rfl, rfl, H0⟩ | ⟨g, cap, cur, rfl, h1, h2, h3, h4, h5, H⟩
  · exact H0.add (A := slA size (.slice none 0 0) 0 []) fun _ _ => ⟨by simp, none, 0, rfl, Nat.le_refl _, Nat.zero_le _, fun h => absurd h (by omega)⟩
  · refine H.freeze.imp1 (B := slA size (.slice (some ⟨g, 0, none⟩) n cap) n xs) fun _ r hr => ⟨h5, some ⟨g, 0, none⟩, cap, rfl, h1, h2, fun _ => ⟨_, rfl, fun j u hu => ?_⟩⟩
    have hr' : r g = some (.cells cur e (0, 0)) := hr
    rw [add_zero_block]
    refine ⟨cur, e, (0, 0), hr', rfl, ?_⟩
    rw [← h4, List.getElem?_take] at hu
    split at hu
    · simpa using hu
    · cases hu
theorem Own.sl_rd (H : Own W w (slA size v n xs :: L)) : RdW w size v n xs := by
  obtain ⟨h, r, d, a, b, hW, h1, h2, x1, x2, x3, ⟨hl, A, c, e1, e2, e3, e4⟩, y⟩ := H.ex
  refine ⟨hl, A, c, e1, e2, e3, fun hn => ?_⟩
  obtain ⟨ad, e5, e6⟩ := e4 hn
  refine ⟨ad, e5, fun j u hu => ?_⟩
  obtain ⟨cs, t, f, k1, k2, k3⟩ := e6 j u hu
  have := b _ _ k1
  simp only [World.cell?, this, k2]
  simpa using k3
theorem Own.sl_dup (H : Own W w (slA size v n xs :: L)) : Own W w (slA size v n xs :: slA size v n xs :: L) :=
  H.imp fun h _ _ ⟨h1, h2, a, b, d, e, x⟩ => ⟨fun _ => none, h, hle_none _, Hle.refl _, fun _ => .inl rfl, e, h1, h2, a, b, d, e, x⟩
/-- What could be read at the beginning can be read for ever. -/
theorem Own.sl_old (H : Own W w L) (hr : RdW W size v n xs) : Own W w (slA size v n xs :: L) := by
  obtain ⟨hl, A, c, e1, e2, e3, e4⟩ := hr
  refine H.add (A := slA size v n xs) fun r hW => ⟨hl, A, c, e1, e2, e3, fun hn => ?_⟩
  obtain ⟨ad, e5, e6⟩ := e4 hn
  refine ⟨ad, e5, fun j u hu => ?_⟩
  have hc := e6 j u hu
  have hlt := World.block_lt_of_cell? _ _ hc
  unfold World.cell? at hc
  split at hc
  · rename_i cs t f hb
    split at hc
    · cases hc
    · rename_i hs
      exact ⟨cs, t, f, (hW _ hlt).trans hb, by simpa using hs, hc⟩
  · cases hc
end
/-! ### append, where the walk meets it -/
theorem Own.append_eq {P : Program} {W w : World} {L : List Asn} {e t : TypeId} {size bytes n m : Nat} {v x : Value} {xs news : List Value} (H : Own W w (rowA e size v n xs :: L)) (T : SlT P t e size bytes) (ty : TypeId)
    (hr : RdW w size x m news) (h1 : ∀ u ∈ news, u.oneCell' = true) (h63 : n + m ≤ maxLen) (hbytes : (n + m) * bytes ≤ 140737488355328) :
    ∃ A c w', (appendSem #[t, t] ty #[v, x]).run P w = .ok (.slice A (n + m) c) w' ∧ Own W w' (rowA e size (.slice A (n + m) c) (n + m) (xs ++ news) :: L) := by
  obtain ⟨v', w', h1, h2⟩ := H.row_append_rd T ty hr h1 h63 hbytes
  obtain ⟨A, c, rfl, _⟩ := h2.row_rd.form
  exact ⟨A, c, w', h1, h2⟩
open Go.Lib in
theorem Own.append_str {P : Program} {W w : World} {L : List Asn} {e t u : TypeId} {n : Nat} {v : Value} {xs : List Value} (H : Own W w (rowA e 1 v n xs :: L)) (ht : P.underlying t = some (.slice e))
    (hinf : (P.info? e).map (fun i => (i.zero, i.size, i.bytes)) = some (some (.int .u8 0), 1, 1)) (hu : P.underlying u = some .string) (ty : TypeId) (s : ByteArray) (hb : n + s.size ≤ 140737488355328) :
    ∃ A c w', (appendSem #[t, u] ty #[v, .string s]).run P w = .ok (.slice A (n + s.size) c) w' ∧ Own W w' (rowA e 1 (.slice A (n + s.size) c) (n + s.size) (xs ++ strCells s) :: L) := by
  obtain ⟨i, hi, hz, hs, hby⟩ := info_parts hinf
  have hown := H.row
  have hxl : xs.length = n := by simpa using hown.1
  have hlen : (xs ++ strCells s).length = (n + s.size) * 1 := by rw [List.length_append, hxl, strCells_length, Nat.mul_one]
  have newrow : ∀ old, old < n + s.size → Own W (w.drew.alloc (.cells (xs.toArray ++ (strCells s).toArray ++ Builtin.zeroCells (Value.int .u8 0).cells (grownCap w (n + s.size) old e - (n + s.size))) e))
      (rowA e 1 (.slice (some ⟨w.heap.size, 0, none⟩) (n + s.size) (grownCap w (n + s.size) old e)) (n + s.size) (xs ++ strCells s) :: L) := by
    intro old ho
    have hge := grownCap_ge w (n + s.size) old e
    have hcm : grownCap w (n + s.size) old e ≤ maxLen := grownCap_le_maxLen w (n + s.size) old e (by unfold maxLen; omega)
    refine (H.drop.drew.alloc _).row_of_blk hge hcm ?_ ?_
    · have hz1 : (Value.int IntKind.u8 0).cells.size = 1 := rfl
      simp only [Array.size_append, List.size_toArray, size_zeroCells, hz1, hxl, strCells_length]
      omega
    · simp only [Array.toList_append, List.append_assoc]
      rw [← List.append_assoc, ← hlen]
      exact List.take_left
  rcases H.row_cases with ⟨rfl, rfl, rfl, H0⟩ | ⟨g, cap, cur, rfl, hnc, hcm, hcs, htake, _, H0⟩
  · by_cases hm : s.size = 0
    · have hn : strCells s = [] := List.eq_nil_of_length_eq_zero (by rw [strCells_length]; exact hm)
      refine ⟨none, 0, w, ?_, by rw [hm, hn]; exact H0.row_nil e 1⟩
      have hf := run_firstCells_string (P := P) w 1 s
      rw [hm] at hf
      simp [appendSem, Builtin.append_, run_underlying ht, run_underlying hu, Go.sizeOf, typeInfo, hi, hs, Builtin.lenOf, hm, hf]
    · have hr := run_append_nil_string (P := P) w t u ty e i (.int .u8 0) ht hu hi hz s (by omega) (by omega) (by rw [hby]; omega)
      have hgr := newrow 0 (by omega)
      simp only [Nat.zero_add, List.nil_append, Array.empty_append] at hgr ⊢
      have e1 : (s.data.map fun b => Value.int .u8 b.toNat) = (strCells s).toArray := by
        apply Array.ext'
        simp [strCells]
      rw [e1] at hr
      exact ⟨_, _, _, hr, hgr⟩
  · by_cases hroom : n + s.size ≤ cap
    · have hcs' : cur.size = cap := by simpa using hcs
      have hr := run_append_room_string (P := P) w t u ty e i ht hu hi hs g n cap cur H0.has s hroom (by omega)
      have H1 := H0.upd (w' := w.setRow g (cur.toList.take n ++ strCells s ++ cur.toList.drop (n + s.size)).toArray) ⟨rfl, rfl, rfl, by simp, fun k _ hk => setRow_other w g k _ (fun e => hk (by simp [e]))⟩ (setRow_heap w g cur _ e _ H0.has)
      refine ⟨_, _, _, hr, H1.row_of_blk hroom hcm ?_ ?_⟩
      · simp only [List.size_toArray, List.length_append, List.length_take, List.length_drop, Array.length_toList, strCells_length]
        omega
      · have ht' : cur.toList.take n = xs := by simpa using htake
        rw [ht', ← hlen]
        exact List.take_left
    · have holds : ∀ j u, xs[j]? = some u → w.cell? ((⟨g, 0, none⟩ : Addr).add j) = some u := hown.cells (g := g) rfl
      have hr := run_append_grow_string (P := P) w t u ty e i (.int .u8 0) ht hu hi hz ⟨g, 0, none⟩ n cap xs (by rw [hs]; simpa using hxl) holds s (by omega) (by omega) (by rw [hby]; exact growslice_fits (by omega) (by omega))
      exact ⟨_, _, _, hr, newrow cap (by omega)⟩
section
variable {P : Program} {W w : World} {L : List Asn} {e t : TypeId} {size bytes n m : Nat} {v x : Value} {xs news : List Value} {o : Oper} {a : Act} {Q : Exit → Act → World → Prop} {K : Act → World → Prop} {ops : Array Oper} {rest : List Oper}
theorem wp_append (H : Own W w (rowA e size v n xs :: L)) (T : SlT P t e size bytes) (hr : RdW w size x m news) (h1 : ∀ u ∈ news, u.oneCell' = true) (h63 : n + m ≤ maxLen) (hbytes : (n + m) * bytes ≤ 140737488355328)
    (s y : Operand) (ho : o.op = .call { callee := .builtin .append, args := #[s, y], argTypes := #[t, t] }) (hs : a.eval s = v) (hx : a.eval y = x)
    (h : ∀ v' w', Own W w' (rowA e size v' (n + m) (xs ++ news) :: L) → K (a.put o.dst v') w') : o.wp P a w K Q := by
  obtain ⟨v', w', hrun, H'⟩ := H.row_append_rd T o.type hr h1 h63 hbytes
  unfold Oper.wp execOp
  simp only [ho, resolve, invoke, builtin, Sem.run_bind, Sem.run_pure, Result.andThen_ok, List.map_toArray, List.map_cons, List.map_nil, hs, hx, hrun]
  exact h v' w' H'
theorem wpList_append (H : Own W w (rowA e size v n xs :: L)) (T : SlT P t e size bytes) (hr : RdW w size x m news) (h1 : ∀ u ∈ news, u.oneCell' = true) (h63 : n + m ≤ maxLen) (hbytes : (n + m) * bytes ≤ 140737488355328)
    (hg : o.guard = none) (s y : Operand) (ho : o.op = .call { callee := .builtin .append, args := #[s, y], argTypes := #[t, t] }) (hs : a.eval s = v) (hx : a.eval y = x)
    (h : ∀ v' w', Own W w' (rowA e size v' (n + m) (xs ++ news) :: L) → wpList P ops Q rest (a.put o.dst v') w') : wpList P ops Q (o :: rest) a w :=
  wpList_plain hg fun _ hK => wp_append H T hr h1 h63 hbytes s y ho hs hx fun v' w' H' => hK _ _ (h v' w' H')
theorem step_append {E : Prop} (H : Own W w (rowA e size v n xs :: L)) (T : SlT P t e size bytes) (hr : RdW w size x m news) (h1 : ∀ u ∈ news, u.oneCell' = true) (h63 : n + m ≤ maxLen) (hbytes : (n + m) * bytes ≤ 140737488355328)
    (hg : o.guard = none) (s y : Operand) (ho : o.op = .call { callee := .builtin .append, args := #[s, y], argTypes := #[t, t] }) (hs : a.eval s = v) (hx : a.eval y = x)
    (h : ∀ v' w', Own W w' (rowA e size v' (n + m) (xs ++ news) :: L) → K (a.put o.dst v') w') : if Region.wanted o (yielded ops a.tmps) = true then Oper.wp P o a w K Q else E := by
  rw [if_pos (by simp [Region.wanted, hg])]
  exact wp_append H T hr h1 h63 hbytes s y ho hs hx h
/-- The new elements of 'append(v, x, ..)': a block just made. -/
theorem rd_new (w : World) (cs : Array Value) (e : TypeId) {n size : Nat} (h : cs.size = n * size) (hn : n ≤ maxLen) : RdW (w.alloc (.cells cs e)) size (.slice (some ⟨w.heap.size, 0, none⟩) n n) n cs.toList :=
  ⟨by simpa using h, some ⟨w.heap.size, 0, none⟩, n, rfl, Nat.le_refl _, hn, fun _ => ⟨_, rfl, fun j u hu => by rw [add_zero_block]; simpa using hu⟩⟩
end
end Sk
/- A range over a function, in terms of what is owned. -/
namespace Sk
open Go Go.RowKit
abbrev FW : Fence := Fence.wide
theorem putObj_grown (w : World) (b : Nat) (o : Obj) : w.grownBy (w.putObj b o) (some b) :=
  ⟨rfl, rfl, rfl, by simp, fun i _ hi => World.putObj_heap_other (fun e => hi (by rw [e]))⟩
section
variable {W w w' : World} {L : List Asn} {b : Nat} {o : Obj}
theorem Own.putObj (H : Own W w (blk b o :: L)) (q : Obj) : Own W (w.putObj b q) (blk b q :: L) :=
  H.upd (putObj_grown w b q) (World.putObj_heap_same H.lt)
end
/-- What a round's body is to leave: on its end, or by a jump. -/
def ownRound (W : World) (l : Nat) (r : Loop) (Ln : List Asn) (Lx : Code → List Asn) : Exit → Act → World → Prop
  | .normal, _, w => Own W w (blk l (.loop { r with state := .busy }) :: Ln)
  | .ret, _, w => Own W w (blk l (.loop { r with state := .busy }) :: Lx .ret)
  | .exit id, _, w => Own W w (blk l (.loop { r with state := .busy }) :: Lx (.exit id))
  | .goto t, _, w => Own W w (blk l (.loop { r with state := .busy }) :: Lx (.goto t))
  | _, _, _ => False
/-- A call of yield has come back. -/
def yielded' (W : World) (l : Nat) (r : Loop) (Ln : List Asn) (Lx : Code → List Asn) (e : Ending) (w : World) : Prop :=
  (e = .returned (.bool true) ∧ Own W w (blk l (.loop r) :: Ln)) ∨
  (e = .returned (.bool false) ∧ ∃ c, Own W w (blk l (.loop { r with state := .done, pending := some c }) :: Lx c))
theorem round_own {P : Program} {n : Nat} {W w : World} {l : Nat} {r : Loop} {L Ln : List Asn} {Lx : Code → List Asn} {args : Array Value} (H : Own W w (blk l (.loop r) :: L)) (hr : r.state = .ready) (hp : r.pending = none) (hs : args.size = r.params.size)
    (h : r.assign.wpIn (FW.inRound l) n P (Exit.then (fun a₁ w₁ => ∃ L1, Own W w₁ (blk l (.loop r) :: L1) ∧ ∀ w₂, Own W w₂ (blk l (.loop { r with state := .busy }) :: L1) → r.body.wpIn (FW.inRound l) n P (ownRound W l r Ln Lx) a₁ w₂) (fun _ _ _ => False))
      { tmps := (r.params.zip args).foldl (fun tmps (t, a) => tmps.setIfInBounds t a) r.tmps, defers := [] } w) :
    YieldAt FW n P l args w (yielded' W l r Ln Lx) := by
  refine ⟨r.fn, _, r.assign, r.body, run_yield H.has hs, roundIn_of_wpIn (F := FW) trivial (wpIn_mono h ?_)⟩
  intro e a₁ w₁ hq
  cases e with
  | normal =>
    obtain ⟨L1, H1, hb⟩ := hq
    refine ⟨_, run_beginRound H1.has hr, wpIn_mono (hb _ (H1.putObj _)) ?_⟩
    intro e a₂ w₃ hq
    have fin : ∀ (jump : Option Code) (M : List Asn), Own W w₃ (blk l (.loop { r with state := .busy }) :: M) →
        (Instr.endRound l jump).run P w₃ = .ok (.bool jump.isNone) (w₃.putObj l (.loop { r with state := if jump.isNone then .ready else .done, pending := jump })) ∧
        Own W (w₃.putObj l (.loop { r with state := if jump.isNone then .ready else .done, pending := jump })) (blk l (.loop { r with state := if jump.isNone then .ready else .done, pending := jump }) :: M) :=
      fun jump M H3 => ⟨run_endRound (r := { r with state := .busy }) jump H3.has, H3.putObj _⟩
    cases e with
    | normal =>
      obtain ⟨h1, h2⟩ := fin none _ hq
      refine ⟨_, _, h1, .inl ⟨rfl, ?_⟩⟩
      have : ({ r with state := .ready, pending := none } : Loop) = r := by cases r; simp_all
      simpa [this] using h2
    | ret => obtain ⟨h1, h2⟩ := fin (some .ret) _ hq; exact ⟨_, _, h1, .inr ⟨rfl, .ret, by simpa using h2⟩⟩
    | exit id => obtain ⟨h1, h2⟩ := fin (some (.exit id)) _ hq; exact ⟨_, _, h1, .inr ⟨rfl, .exit id, by simpa using h2⟩⟩
    | goto t => obtain ⟨h1, h2⟩ := fin (some (.goto t)) _ hq; exact ⟨_, _, h1, .inr ⟨rfl, .goto t, by simpa using h2⟩⟩
    | panic ch => exact hq.elim
    | outgrown => exact hq.elim
  | exit id => exact hq.elim
  | goto l => exact hq.elim
  | ret => exact hq.elim
  | panic ch => exact hq.elim
  | outgrown => exact hq.elim
/-- The loop's record, as it is laid. -/
@[reducible] def recOf (fn : FuncId) (tmps : Array Value) (ps : Array Tmp) (assign body : Code) (D : Nat) : Loop :=
  { state := .ready, pending := none, fn, tmps, params := ps, assign, body, defers := D }
/-- What is known of a loop's record at the head of a round. -/
structure RecIs (r : Loop) (tmps : Array Value) (ps : Array Tmp) (assign body : Code) : Prop where
  state : r.state = .ready
  pending : r.pending = none
  params : r.params = ps
  tm : r.tmps = tmps
  asg : r.assign = assign
  bo : r.body = body
theorem round_is {P : Program} {n : Nat} {W w : World} {l : Nat} {r : Loop} {tmps : Array Value} {ps : Array Tmp} {assign body : Code} {L Ln : List Asn} {Lx : Code → List Asn} {args : Array Value} (R : RecIs r tmps ps assign body) (H : Own W w (blk l (.loop r) :: L)) (hs : args.size = ps.size)
    (h : assign.wpIn (FW.inRound l) n P (Exit.then (fun a₁ w₁ => ∃ L1, Own W w₁ (blk l (.loop r) :: L1) ∧ ∀ w₂, Own W w₂ (blk l (.loop { r with state := .busy }) :: L1) → body.wpIn (FW.inRound l) n P (ownRound W l r Ln Lx) a₁ w₂) (fun _ _ _ => False))
      { tmps := (ps.zip args).foldl (fun tmps (t, a) => tmps.setIfInBounds t a) tmps, defers := [] } w) :
    YieldAt FW n P l args w (yielded' W l r Ln Lx) := by
  obtain ⟨h1, h2, h3, h4, h5, h6⟩ := R
  subst h3; subst h4; subst h5; subst h6
  exact round_own H h1 h2 hs h
/-- The statement 'for .. := range g { .. }', outside every round. -/
theorem range_own {P : Program} {n : Nat} {W w : World} {L : List Asn} {g : Operand} {ps : Array Tmp} {assign body : Code} {Q : Exit → Act → World → Prop} {a : Act} (H : Own W w L)
    {gf : Nat} {lb : Array Value} (hg : a.eval g = .func (.func gf) #[] lb) (eg : ∀ args w, (callFunc gf args).run P w = .ok (.enter gf args) w)
    {Ld : List Asn} {Lx : Code → List Asn}
    (hiter : ∀ r l D w1, RecIs r a.tmps ps assign body → Own W w1 (blk l (.loop r) :: blk D (.deferred (some [])) :: L) →
      CallsIn FW (n - 1) P gf (#[.func (.yield l) #[] #[]] ++ lb) w1 fun e w2 => (∃ v, e = .returned v) ∧
        (Own W w2 (blk l (.loop r) :: blk D (.deferred (some [])) :: Ld) ∨
         ∃ c, Own W w2 (blk l (.loop { r with state := .done, pending := some c }) :: blk D (.deferred (some [])) :: Lx c)))
    (hdone : ∀ D w2, Own W w2 (blk D (.deferred (some [])) :: Ld) → Q .normal { a with defers := { target := .collected D, args := #[] } :: a.defers } w2)
    (hstop : ∀ D c w2, Own W w2 (blk D (.deferred (some [])) :: Lx c) → c.wpIn FW n P Q { a with defers := { target := .collected D, args := #[] } :: a.defers } w2) :
    (Code.rangeFunc g ps assign body).wpIn FW n P Q a w := by
  refine wpIn_rangeFunc ?_
  intro fn _
  have H1 := (H.alloc (.deferred (some []))).alloc (.loop (recOf fn a.tmps ps assign body w.heap.size))
  rw [World.size_alloc] at H1
  have he := run_enterLoop_outer (P := P) (w := w) fn a.tmps ps assign body
  generalize hW1 : (w.alloc (.deferred (some []))).alloc (.loop (recOf fn a.tmps ps assign body w.heap.size)) = W1 at H1
  have he' : (Instr.enterLoop fn a.tmps ps assign body none).run P w = .ok (w.heap.size + 1, [{ target := .collected w.heap.size, args := #[] }]) W1 := by rw [← hW1]; exact he
  refine ⟨w.heap.size + 1, [{ target := .collected w.heap.size, args := #[] }], W1, { target := .fn (.func gf) lb, args := #[.func (.yield (w.heap.size + 1)) #[] #[]] }, W1, gf,
    #[.func (.yield (w.heap.size + 1)) #[] #[]] ++ lb, W1, he', ?_, fun _ _ => trivial, ?_, fun h => (by cases h), ?_⟩
  · simp only [resolve, hg]
    simp [go_sem]
  · simp [invoke, go_sem, eg]
  · refine (hiter _ _ _ _ ⟨rfl, rfl, rfl, rfl, rfl, rfl⟩ H1).mono ?_
    rintro e w2 ⟨⟨v, rfl⟩, (H2 | ⟨c, H2⟩)⟩
    · exact ⟨none, _, run_endLoop (r := recOf fn a.tmps ps assign body w.heap.size) H2.has (by simp), hdone _ _ (H2.putObj _).drop⟩
    · exact ⟨some c, _, run_endLoop (r := { recOf fn a.tmps ps assign body w.heap.size with state := .done, pending := some c }) H2.has (by simp), hstop _ _ _ (H2.putObj _).drop⟩
end Sk
