/- A region that draws its order: the rest may fork. -/
import Derived.Test.YtpgbfoeejiamjaaGreatDoorK03
import Derived.Test.YtpgbfoeejiamjaaGreatDoorProg
import Derived.BigRegion
import Derived.ChangeAlike
set_option linter.all false
set_option linter.unusedVariables false
set_option linter.unusedSimpArgs false
set_option linter.unusedSectionVars false
namespace Sk
open Go Go.RowKit
/-- The orders of what is not read first. -/
inductive Tl where
  | nil
  | one (i : Nat) (r : Tl)
  | two (i : Nat) (r : Tl) (j : Nat) (s : Tl)
def Tl.len : Tl → Nat
  | .nil => 0
  | .one _ r => r.len + 1
  | .two _ r _ _ => r.len + 1
section
variable {F : Fence} {n : Nat} {P : Program} {ops : Array Oper} {Q : Exit → Act → World → Prop} {S : World → Prop} {fin : Nat → Bool}
def wpTr (F : Fence) (n : Nat) (P : Program) (ops : Array Oper) (Q : Exit → Act → World → Prop) (S : World → Prop) (fin : Nat → Bool) : Tl → Act → World → Prop
  | .nil, a, w => Q .normal a w
  | .one i r, a, w => wpOpIn F n P ops (OnlyEnd Q) i (fun a' w' => (fin i = false → S w') ∧ wpTr F n P ops Q S fin r a' w') a w
  | .two i r j s, a, w => wpOpIn F n P ops (OnlyEnd Q) i (fun a' w' => (fin i = false → S w') ∧ wpTr F n P ops Q S fin r a' w') a w ∧ wpOpIn F n P ops (OnlyEnd Q) j (fun a' w' => (fin j = false → S w') ∧ wpTr F n P ops Q S fin s a' w') a w
def trB (ops : Array Oper) : Tl → Array Bool → Bool
  | .nil, listed => (Region.ready .any ops listed).isEmpty
  | .one i r, listed => decide (Region.ready .any ops listed = [i]) && trB ops r (listed.setIfInBounds i true)
  | .two i r j s, listed => decide (Region.ready .any ops listed = [i, j]) && decide (r.len = s.len) && trB ops r (listed.setIfInBounds i true) && trB ops s (listed.setIfInBounds j true)
def headT (ops : Array Oper) (tail : Tl) : List Nat → Array Bool → Bool
  | [], listed => trB ops tail listed
  | i :: r, listed => (Region.ready .any ops listed).contains i && Region.free .any ops listed i && headT ops tail r (listed.setIfInBounds i true)
def flT (ops : Array Oper) (heads : List Nat) (tail : Tl) (last : List Nat) : Bool :=
  Region.noSelect ops && noDefer ops && last.all (fun j => heads.all fun i => reachB ops 9 j i) && decide (heads.length + tail.len = ops.size) && headT ops tail heads (Array.replicate ops.size false)
theorem fl_tree : ∀ (t : Tl) (listed : Array Bool) (a : Act) (w : World), trB ops t listed = true → wpTr F n P ops Q S fin t a w → wpAnyFl F n P ops Q S fin t.len listed a w
  | .nil, listed, a, w, hB, h => ⟨by simpa [trB] using hB, h⟩
  | .one i r, listed, a, w, hB, h => by
    simp only [trB, Bool.and_eq_true, decide_eq_true_eq] at hB
    refine ⟨fun h0 => (by rw [hB.1] at h0; cases h0), fun j hj => ?_⟩
    rw [hB.1] at hj
    have : j = i := by simpa using hj
    subst this
    exact wpOpIn_mono (fun a' w' h' => ⟨h'.1, fl_tree r _ a' w' hB.2 h'.2⟩) h
  | .two i r k s, listed, a, w, hB, h => by
    simp only [trB, Bool.and_eq_true, decide_eq_true_eq] at hB
    obtain ⟨⟨⟨h1, h2⟩, h3⟩, h4⟩ := hB
    refine ⟨fun h0 => (by rw [h1] at h0; cases h0), fun j hj => ?_⟩
    rw [h1] at hj
    have hj' : j = i ∨ j = k := by simpa using hj
    rcases hj' with rfl | rfl
    · exact wpOpIn_mono (fun a' w' h' => ⟨h'.1, fl_tree r _ a' w' h3 h'.2⟩) h.1
    · refine wpOpIn_mono (fun a' w' h' => ⟨h'.1, ?_⟩) h.2
      have := fl_tree s _ a' w' h4 h'.2
      rw [← h2] at this
      exact this
theorem fl_headT (hF : ∀ f, F.fn f) (hd : noDefer ops = true) (hsel : Region.noSelect ops = true) {tail : Tl} {w : World} (hS : S w) : ∀ (heads : List Nat) (listed : Array Bool) (a : Act), Closed ops listed →
    (∀ i ∈ heads, ∀ j, fin j = true → reachB ops 9 j i = true) → headT ops tail heads listed = true →
    wpHd P ops S (fun a' => wpTr F n P ops Q S fin tail a' w) heads a → wpAnyFl F n P ops Q S fin (heads.length + tail.len) listed a w
  | [], listed, a, _, _, hB, h => by
    rw [List.length_nil, Nat.zero_add]
    exact fl_tree tail listed a w hB h
  | i :: r, listed, a, hc, hfin, hB, ⟨o, v, hi, hy, hn⟩ => by
    simp only [headT, Bool.and_eq_true] at hB
    obtain ⟨⟨hr, hf⟩, hB'⟩ := hB
    have hr' : i ∈ Region.ready .any ops listed := by simpa using hr
    have := fl_headT hF hd hsel hS r (listed.setIfInBounds i true) (a.put o.dst v) (hc.ready hr') (fun k hk => hfin k (by simp [hk])) hB' hn
    rw [show (i :: r).length + tail.len = (r.length + tail.len) + 1 by simp; omega]
    exact fl_first hF hd hi (Region.noSelect_spec hsel) (hfin i (by simp)) _ listed a w hc (Region.free_spec hi hf) hr' hy hS this
theorem region_flT {id : Nat} {a : Act} {w : World} (heads : List Nat) (tail : Tl) (last : List Nat) (S : World → Prop) (hF : ∀ f, F.fn f) (hm : P.follows .mixedOrders = true) (hB : flT ops heads tail last = true) (hS : S w.drew)
    (h : wpHd P ops S (fun a' => wpTr F n P ops Q S (fun i => last.contains i) tail a' w.drew) heads a) : (Code.region id ops true).wpIn F n P Q a w := by
  simp only [flT, Bool.and_eq_true, decide_eq_true_eq] at hB
  obtain ⟨⟨⟨⟨h1, h2⟩, h3⟩, h4⟩, h5⟩ := hB
  refine wpIn_mono (wpIn_region_any (Q := OnlyEnd Q) hm (wpAnyIn_of_fl (S := S) (fin := fun i => last.contains i) _ _ _ _ ?_)) OnlyEnd.imp
  have := fl_headT (fin := fun i => last.contains i) hF h2 h1 hS heads (Array.replicate ops.size false) a closed_none (fun i hi j hj => by
    have hj' : j ∈ last := by simpa using hj
    exact List.all_eq_true.1 (List.all_eq_true.1 h3 j hj') i hi) h5 h
  rw [h4] at this
  exact this
variable {Qh : Act → Prop} {r s : Tl} {i j : Nat} {o : Oper} {v : Value} {a : Act} {w : World}
theorem tr_nil (h : Q .normal a w) : wpTr F n P ops Q S fin .nil a w := h
theorem tr_one (hF : ∀ f, F.fn f) (hd : ∀ c, o.op ≠ .defer c) (hi : ops[i]? = some o) (hw : Region.wanted o (yielded ops a.tmps) = true)
    (h : ∀ K : Act → World → Prop, (∀ a' w', (fin i = false → S w') ∧ wpTr F n P ops Q S fin r a' w' → K a' w') → o.uponIn F n P a K (OnlyEnd Q) ((execOp a.eval o).run P w)) : wpTr F n P ops Q S fin (.one i r) a w := by
  unfold wpTr wpOpIn
  simp only [hi, hw, if_true]
  refine ⟨fun f _ => hF f, ?_⟩
  rw [Oper.semAt_eq F.round a.eval o hd]
  exact h _ fun _ _ h => h
theorem tr_two (h1 : wpTr F n P ops Q S fin (.one i r) a w) (h2 : wpTr F n P ops Q S fin (.one j s) a w) : wpTr F n P ops Q S fin (.two i r j s) a w := ⟨h1, h2⟩
end
end Sk
/- Package slots: fill. -/
namespace Sk
open Go Go.RowKit Go.Proofs
attribute [local go_sem] Oper.semAt_some
def filA (lb q : Nat) (f : Int → Option Bs) (base u top : Int) : Asn := exi fun u' : Int => grp [pur (u ≤ u' ∧ u' ≤ max u top ∧ (∀ k, u ≤ k → k < u' → f k ≠ none) ∧ (f u' = none ∨ top ≤ u')), blk lb (logC q base u' top), strM q f]
theorem Own.fil_shut {W w : World} {L : List Asn} {lb q : Nat} {f : Int → Option Bs} {base u top u' : Int} (h1 : u ≤ u') (h2 : u' ≤ max u top) (h3 : ∀ k, u ≤ k → k < u' → f k ≠ none) (h4 : f u' = none ∨ top ≤ u') (H : Own W w (blk lb (logC q base u' top) :: strM q f :: L)) : Own W w (filA lb q f base u top :: L) :=
  Own.exi_iff.2 ⟨u', Own.grp_iff.2 (Own.pur_iff.2 ⟨⟨h1, h2, h3, h4⟩, H⟩)⟩
theorem Own.fil_open {W w : World} {L : List Asn} {lb q : Nat} {f : Int → Option Bs} {base u top : Int} (H : Own W w (filA lb q f base u top :: L)) : ∃ u', u ≤ u' ∧ u' ≤ max u top ∧ (∀ k, u ≤ k → k < u' → f k ≠ none) ∧ (f u' = none ∨ top ≤ u') ∧ Own W w (blk lb (logC q base u' top) :: strM q f :: L) := by
  obtain ⟨u', H⟩ := Own.exi_iff.1 H
  obtain ⟨⟨h1, h2, h3, h4⟩, H⟩ := Own.pur_iff.1 (Own.grp_iff.1 H)
  exact ⟨u', h1, h2, h3, h4, H⟩
def FillPost (W : World) (L : List Asn) (lb q : Nat) (f : Int → Option Bs) (base u top : Int) (e : Ending) (w : World) : Prop :=
  e = .returned (.tuple #[]) ∧ ∃ u', u ≤ u' ∧ u' ≤ max u top ∧ (∀ k, u ≤ k → k < u' → f k ≠ none) ∧ (f u' = none ∨ top ≤ u') ∧ Own W w (blk lb (logC q base u' top) :: strM q f :: L)
set_option maxRecDepth 100000 in
set_option maxHeartbeats 1000000 in
theorem fillC {W w : World} {L : List Asn} {lb q : Nat} {f : Int → Option Bs} {base u top : Int} (H : Own W w (blk lb (logC q base u top) :: strM q f :: L)) (h0 : 0 ≤ u) (h1 : u ≤ 100000) (h2 : top ≤ 4096) :
    Calls Tryz.prog 123 #[ptr lb] w (FillPost W L lb q f base u top) := by
  have H1 := H.alloc (.cells #[ptr lb] 46)
  have hcl := H.cell
  have hlt := H.lt
  refine (callsIn_wide (n := 5)).1 ?_
  refine callsIn_of_wp_marks Tryz.func123 rfl trivial ?_ rfl
  simp only [Tryz.ntmps123, List.size_toArray, List.length_cons, List.length_nil, Nat.reduceAdd, Nat.reduceSub, Array.replicate_succ, Array.replicate_zero, List.push_toArray, List.append_toArray, List.nil_append, List.cons_append]
  gi_wp2_with fail
  refine region_flT [0, 1, 2, 3, 4] (.one 5 .nil) [5] (fun w' => (∀ i, w'.cell? ⟨w.heap.size, i, none⟩ = #[ptr lb][i]?) ∧ (∀ i, w'.cell? ⟨lb, i, none⟩ = #[.map (some q), ei base, ei u, ei top][i]?)) (fun _ => trivial) (by kernel_rfl) (by kernel_rfl) ?hS ?_
  case hS => (exact ⟨H1.drew.cell, H1.drew.front2.cell⟩)
  apply hd_on (i := 0) rfl rfl
  · (intro w' hS; go_simp; try rfl)
  simp only [List.getElem_toArray, List.getElem_cons_succ, List.getElem_cons_zero, Act.put, List.setIfInBounds_toArray, List.set_cons_succ, List.set_cons_zero]
  apply hd_on (i := 1) rfl rfl
  · (intro w' hS; go_simp; try rfl)
  simp only [List.getElem_toArray, List.getElem_cons_succ, List.getElem_cons_zero, Act.put, List.setIfInBounds_toArray, List.set_cons_succ, List.set_cons_zero]
  apply hd_on (i := 2) rfl rfl
  · (intro w' hS; go_simp; try rfl)
  simp only [List.getElem_toArray, List.getElem_cons_succ, List.getElem_cons_zero, Act.put, List.setIfInBounds_toArray, List.set_cons_succ, List.set_cons_zero]
  apply hd_on (i := 3) rfl rfl
  · (intro w' hS; go_simp; try rfl)
  simp only [List.getElem_toArray, List.getElem_cons_succ, List.getElem_cons_zero, Act.put, List.setIfInBounds_toArray, List.set_cons_succ, List.set_cons_zero]
  apply hd_on (i := 4) rfl rfl
  · (intro w' hS; go_simp; try rfl)
  simp only [List.getElem_toArray, List.getElem_cons_succ, List.getElem_cons_zero, Act.put, List.setIfInBounds_toArray, List.set_cons_succ, List.set_cons_zero]
  refine hd_nil ?_
  refine tr_one (i := 5) (fun _ => trivial) (fun _ h => by cases h) rfl rfl (fun K hK => ?_)
  go_simp
  refine callsIn_wide.2 ((fromC _ _ _).mono ?_)
  rintro e w1 ⟨rfl, rfl⟩
  refine hK _ _ ⟨fun h => by simp at h, ?_⟩
  clear hK K
  refine tr_nil ?_
  have H2 := ((H1.drew.alloc (.cells #[ptr lb] 46)).alloc (.cells #[ei u] 3))
  simp only [World.size_alloc] at H2
  gi_wp2_with fail
  refine range_own (Ld := filA lb q f base u top :: L) (Lx := fun c => pur (c = .ret) :: filA lb q f base u top :: L) H2 rfl (enters_of Tryz.func212 (by kernel_rfl) rfl) ?iter ?done ?stop
  case iter =>
    intro r l D w1 R HI
    have HJ := (Own.grp_mk ([pur (∀ k, u ≤ k → k < u → f k ≠ none), blk l (.loop r), blk D (.deferred (some [])), blk w.heap.size (.cells #[ptr lb] 46)]) (Own.pur_iff.2 ⟨fun k a b => by omega, Own.sel HI [0, 1, 4]⟩)).sel [1, 2, 3, 0]
    refine (from1 3 l _ _ lb q (base := base) (slot := u) (top := top) h0 h1 h2 (fun i => i) (fun i => i) (fun i => grp [pur (∀ k, u ≤ k → k < i → f k ≠ none), blk l (.loop r), blk D (.deferred (some [])), blk w.heap.size (.cells #[ptr lb] 46)])
      (fun i => grp [pur ((∀ k, u ≤ k → k < i → f k ≠ none) ∧ f i = none), blk l (.loop { r with state := .done, pending := some .ret }), blk D (.deferred (some []))]) ?_ w1 HJ).mono ?_
    · intro i w' RR hi1 hi2 H'
      obtain ⟨hall, H3⟩ := Own.pur_iff.1 (Own.grp_iff.1 H'.front2)
      have H3 : Own W w' (blk l (.loop r) :: blk D (.deferred (some [])) :: blk w.heap.size (.cells #[ptr lb] 46) :: blk lb (logC q base i top) :: strM q f :: RR) := H3
      have Y : YieldAt FW 3 Tryz.prog l #[ei i, .bool (f i).isSome] w' (yielded' W l r (pur (f i ≠ none) :: blk D (.deferred (some [])) :: blk w.heap.size (.cells #[ptr lb] 46) :: blk lb (logC q base (i + 1) top) :: strM q f :: RR) (fun c => pur (c = .ret ∧ f i = none) :: blk D (.deferred (some [])) :: blk lb (logC q base i top) :: strM q f :: RR)) := by
        refine round_is R H3 rfl ?_
        have HA := Lib.hid hall
        clear hall hcl
        rcases hfi : f i with _ | v
        · have HF := Lib.hid hfi
          clear hfi
          simp only [Option.isSome_none]
          gi_wp2
          refine ⟨_, H3, fun w₂ H5 => ?_⟩
          gi_wp2
          exact Own.front2 (Own.pur_iff.2 ⟨(by first | exact HF.out | exact ⟨rfl, HF.out⟩ | trivial), (Own.sel H5 [0, 1, 3, 4, 2]).sel [0, 1, 2, 3] |>.drop5⟩)
        · have HF := Lib.hid hfi
          clear hfi
          simp only [Option.isSome_some]
          gi_wp2
          refine ⟨_, H3, fun w₂ H5 => ?_⟩
          have hcb := H5.front3.cell
          have hcl := H5.front4.cell
          have hfl := H5.front4.free
          have H6 := (H5.front4.set 2 (ei (i + 1))).sel [1, 2, 3, 0]
          gi_wp2
          exact Own.front2 (Own.pur_iff.2 ⟨(by first | (rw [HF.out]; simp) | trivial), H6⟩)
      exact Y.mono fun e w'' h => by
        rcases h with ⟨rfl, h⟩ | ⟨rfl, c, h⟩
        · obtain ⟨hf, h⟩ := Own.pur_iff.1 h.front2
          refine .inl ⟨rfl, (Own.grp_mk ([pur (∀ k, u ≤ k → k < i + 1 → f k ≠ none), blk l (.loop r), blk D (.deferred (some [])), blk w.heap.size (.cells #[ptr lb] 46)]) (Own.pur_iff.2 ⟨fun k a b => ?_, Own.sel h [0, 1, 2]⟩)).front2⟩
          by_cases hk : k = i
          · subst hk; exact hf
          · exact hall k a (by omega)
        · obtain ⟨⟨rfl, hf⟩, h⟩ := Own.pur_iff.1 h.front2
          exact .inr ⟨rfl, (Own.grp_mk ([pur ((∀ k, u ≤ k → k < i → f k ≠ none) ∧ f i = none), blk l (.loop { r with state := .done, pending := some .ret }), blk D (.deferred (some []))]) (Own.pur_iff.2 ⟨⟨hall, hf⟩, Own.sel h [0, 1]⟩)).front2⟩
    · rintro e w2 ⟨hv, h⟩
      refine ⟨hv, ?_⟩
      rcases h with h | ⟨i, hi1, hi2, h⟩
      · obtain ⟨hall, h⟩ := Own.pur_iff.1 (Own.grp_iff.1 h.front2)
        refine .inl ((Own.fil_shut (u' := max u top) (by omega) (by omega) hall (.inr (by omega)) (Own.sel h [3, 4])).sel [1, 2, 0] |>.drop4)
      · obtain ⟨⟨hall, hf⟩, h⟩ := Own.pur_iff.1 (Own.grp_iff.1 h.front2)
        refine .inr ⟨.ret, (Own.pur_iff.2 ⟨rfl, (Own.fil_shut (u' := i) hi1 (by omega) hall (.inl hf) (Own.sel h [2, 3])).sel [1, 2, 0]⟩).sel [1, 2, 0]⟩
  case done =>
    intro D w2 H2
    gi_wp2_with fail
    refine ⟨by simp, .inl ⟨_, _, rfl, run_takeDeferred H2.has, ?_⟩⟩
    refine ⟨.tuple #[], by simp [results, Tryz.results123, go_sem], ?_⟩
    obtain ⟨u', a1, a2, a3, a4, H5⟩ := (H2.putObj (.deferred none)).drop.fil_open
    exact ⟨rfl, u', a1, a2, a3, a4, H5⟩
  case stop =>
    intro D c w2 H2
    obtain ⟨rfl, H3⟩ := Own.pur_iff.1 H2.front2
    gi_wp2_with fail
    refine ⟨by simp, .inl ⟨_, _, rfl, run_takeDeferred H3.has, ?_⟩⟩
    refine ⟨.tuple #[], by simp [results, Tryz.results123, go_sem], ?_⟩
    obtain ⟨u', a1, a2, a3, a4, H5⟩ := (H3.putObj (.deferred none)).drop.fil_open
    exact ⟨rfl, u', a1, a2, a3, a4, H5⟩
end Sk
/- Package slots: cut. -/
namespace Sk
open Go Go.RowKit Go.Proofs
attribute [local go_sem ↓] run_max_hide run_min_hide
section
variable {W w : World} {L : List Asn}
set_option maxRecDepth 100000 in
set_option maxHeartbeats 1000000 in
theorem cut1 {w : World} {p : Nat} (k u : Int) (v : Bs) (h : w.cell? ⟨p, 0, none⟩ = some (ei u)) : Calls Tryz.prog 185 #[ei k, .string v, ptr p] w fun e w' => e = .returned (.bool (decide (k < u))) ∧ w = w' := by
  go_enter Tryz.func185, Tryz.ntmps185
  go_wp2
  go_ret
  exact ⟨rfl, rfl⟩
set_option maxRecDepth 100000 in
set_option maxHeartbeats 1000000 in
theorem delFuncC {q bu : Nat} {f : Int → Option Bs} {u : Int} (hk : ∀ k, f k ≠ none → goodInt k) (H : Own W w (blk bu (.cells #[ei u] 3) :: strM q f :: L)) :
    Calls Tryz.prog 184 #[.map (some q), .func (.func 185) #[] #[ptr bu]] w fun e w' => e = .returned (.tuple #[]) ∧ Own W w' (blk bu (.cells #[ei u] 3) :: strM q (cutF f u) :: L) := by
  obtain ⟨left, w1, hleft, hrun, H2⟩ := H.front2.range strT
  have HK := Lib.hid hk
  have HL := Lib.hid hleft
  clear hk hleft
  go_enter Tryz.func184, Tryz.ntmps184
  go_wp2
  go_loopw [8] (fun _ wr => ∃ (g : Int → Option Bs) (left : List Int), left.Nodup ∧ (∀ k ∈ left, g k = f k ∧ f k ≠ none) ∧ (∀ k, k ∉ left → g k = cutF f u k) ∧ Own W wr (rngA ik strV goodInt w.heap.size q g left :: blk bu (.cells #[ei u] 3) :: L)) (fun _ wr => leftN wr w.heap.size)
  case atStart =>
    have hnd : left.Nodup := by obtain ⟨_, _, _, _, _, _, _, _, _, _, h, _⟩ := H2.rng_open; exact h
    refine ⟨f, left, hnd, fun k hk => ⟨rfl, (HL.out k).1 hk⟩, fun k hk => ?_, H2⟩
    have : f k = none := by
      have := HL.out k
      cases h : f k with
      | none => rfl
      | some v => exact absurd (this.2 (by rw [h]; simp)) hk
    unfold cutF; rw [this]; split <;> rfl
  case round =>
    obtain ⟨g, left, hnd, hl1, hl2, HH⟩ := hrel
    have hlen := HH.rng_len strT
    have hcp := HH.front2.cell
    rcases HH.next strT 0 with ⟨rfl, hnx⟩ | ⟨k, v, w2, hk, hfk, hnx, hen, hsz, H3⟩
    · have he : g = cutF f u := funext fun k => hl2 k (by simp)
      subst he
      clear hl1 hl2 hnd hlen hrun
      go_wp2_with fail
      refine bodyPost_end (results_none rfl _ _ _) rfl ?_
      exact ⟨rfl, HH.rng_end.front2⟩
    · obtain ⟨hke, hkn⟩ := hl1 k hk
      have hcp2 := H3.front2.cell
      by_cases hku : k < u
      · obtain ⟨w3, hdl, H4⟩ := H3.rng_delete strT (HK.out k hkn) 0
        have HX := Lib.hid (show leftN wr w.heap.size = left.length ∧ left.Nodup ∧ k ∈ left ∧ (∀ k ∈ left, g k = f k ∧ f k ≠ none) ∧ (∀ k, k ∉ left → g k = cutF f u k) from ⟨hlen, hnd, hk, hl1, hl2⟩)
        clear hl1 hl2 hnd hlen hk hke hkn hfk hrun
        go_wp2_with (go_at_call 185; refine (cut1 k u v (hcp2 0)).mono ?_; rintro e w4 ⟨rfl, rfl⟩)
        have hlen2 := H4.rng_len strT
        obtain ⟨a1, a2, a3, a4, a5⟩ := HX.out
        have hee : (left.erase k).erase k = left.erase k := List.erase_of_not_mem (fun h => by rw [List.Nodup.mem_erase_iff a2] at h; exact h.1 rfl)
        rw [hee] at H4 hlen2
        refine ⟨⟨fset g k none, left.erase k, a2.erase k, fun i hi => ?_, fun i hi => ?_, H4⟩, ?_⟩
        · rw [List.Nodup.mem_erase_iff a2] at hi
          simp only [fset, if_neg hi.1]
          exact a4 i hi.2
        · by_cases hik : i = k
          · subst hik; simp [fset, cutF, hku]
          · simp only [fset, if_neg hik]
            refine a5 i (fun h => hi ?_)
            rw [List.Nodup.mem_erase_iff a2]
            exact ⟨hik, h⟩
        · rw [hlen2, a1, List.length_erase_of_mem a3]
          have := List.length_pos_of_mem a3
          omega
      · have HX := Lib.hid (show leftN wr w.heap.size = left.length ∧ left.Nodup ∧ k ∈ left ∧ (∀ k ∈ left, g k = f k ∧ f k ≠ none) ∧ (∀ k, k ∉ left → g k = cutF f u k) from ⟨hlen, hnd, hk, hl1, hl2⟩)
        clear hl1 hl2 hnd hlen hk hke hkn hfk hrun
        go_wp2_with (go_at_call 185; refine (cut1 k u v (hcp2 0)).mono ?_; rintro e w4 ⟨rfl, rfl⟩)
        have hlen2 := H3.rng_len strT
        obtain ⟨a1, a2, a3, a4, a5⟩ := HX.out
        refine ⟨⟨g, left.erase k, a2.erase k, fun i hi => ?_, fun i hi => ?_, H3⟩, ?_⟩
        · rw [List.Nodup.mem_erase_iff a2] at hi
          exact a4 i hi.2
        · by_cases hik : i = k
          · subst hik
            have : ¬ i < u := by omega
            simp only [cutF, if_neg this]
            exact (a4 i a3).1
          · refine a5 i (fun h => hi ?_)
            rw [List.Nodup.mem_erase_iff a2]
            exact ⟨hik, h⟩
        · rw [hlen2, a1, List.length_erase_of_mem a3]
          have := List.length_pos_of_mem a3
          omega
set_option maxRecDepth 100000 in
set_option maxHeartbeats 4000000 in
theorem cutC {lb q : Nat} {f : Int → Option Bs} {base u top n : Int} (hk : ∀ k, f k ≠ none → goodInt k) (H : Own W w (blk lb (logC q base u top) :: strM q f :: L)) (h0 : 0 ≤ u) (h1 : u ≤ 4096) (h2 : top ≤ 4096) (h3 : 0 ≤ n) (h4 : n ≤ 4096) :
    Calls Tryz.prog 128 #[ptr lb, ei n] w (FillPost W L lb q (cutF f n) n (mxI u n) (mxI top n)) := by
  have hcl := H.cell
  have hfl := H.free
  have hlt := H.lt
  have H1 := (H.alloc (.cells #[ei n] 3)).sel [0, 2]
  have hdf := Lib.hid (delFuncC hk H1)
  have e1 := mxI_eq u n
  have e2 := mxI_eq top n
  have hb1 : 0 ≤ mxI u n ∧ mxI u n ≤ 100000 := by rw [e1]; omega
  have hb2 : mxI top n ≤ 4096 := by rw [e2]; omega
  clear hk e1 e2
  go_enter Tryz.func128, Tryz.ntmps128
  go_wp2_with (go_at_call 184; refine hdf.out.mono ?_; rintro e w1 ⟨rfl, H2⟩; have H3 := H2.front3; have hc3 := H3.cell; have hf3 := H3.free; have hcb := H2.cell; have H4 := H3.set 1 (ei n))
  obtain ⟨w2, hw2⟩ : ∃ w2, w1.setCell ⟨lb, 1, none⟩ (ei n) = w2 := ⟨_, rfl⟩
  rw [hw2] at H4 ⊢
  clear hw2 hc3 hf3 hcb
  have hc4 := H4.cell
  have hf4 := H4.free
  have hcb4 := (Own.front2 H4).cell
  simp only [List.setIfInBounds_toArray, List.set_cons_succ, List.set_cons_zero] at hc4
  go_region
  have H5 := ((H4.set 2 (ei (mxI u n))).set 3 (ei (mxI top n))).drew
  have hfi := Lib.hid (fillC (H5.sel [0, 2]) hb1.1 hb1.2 hb2)
  go_wp2_with (go_at_call 123; refine hfi.out.mono ?_; rintro e w3 ⟨rfl, u', a1, a2, a3, a4, H6⟩)
  refine bodyPost_end (results_none rfl _ _ _) rfl ?_
  exact ⟨rfl, u', a1, a2, a3, a4, H6.drop3⟩
/-- What holds of logs. -/
structure Log.ok (s : Log) : Prop where
  lo : 0 ≤ s.base
  bu : s.base ≤ s.upto
  ut : s.upto ≤ s.top
  hi : s.top ≤ 4096
  val : ∀ k, s.val k ≠ none → s.base ≤ k ∧ k < s.top
  full : ∀ k, s.base ≤ k → k < s.upto → s.val k ≠ none
  miss : s.val s.upto = none
  last : s.top = s.base ∨ s.val (s.top - 1) ≠ none
  sz : ∀ k v, s.val k = some v → v.size ≤ 65536
theorem Log.ok.good {s : Log} (h : s.ok) : ∀ k, s.val k ≠ none → goodInt k := fun k hk => by
  have := h.val k hk; have := h.lo; have := h.hi; exact goodInt_of (by omega) (by omega)
/-- The log from a slot on. -/
def Log.cutTo (s t : Log) (n : Int) : Prop := t.val = cutF s.val n ∧ t.base = n ∧ t.ok
def CutPost (W : World) (L : List Asn) (b : Nat) (s : Log) (n : Int) (en : Ending) (w : World) : Prop :=
  en = .returned (.tuple #[]) ∧ ∃ t, s.cutTo t n ∧ Own W w (logA b t :: L)
set_option maxHeartbeats 1000000 in
theorem logCut {b : Nat} {s : Log} (H : Own W w (logA b s :: L)) (hs : s.ok) (n : Int) (h1 : s.base ≤ n) (h2 : n ≤ 4096) : Calls Tryz.prog 128 #[ptr b, ei n] w (CutPost W L b s n) := by
  obtain ⟨m, H0⟩ := H.log_open
  refine (cutC hs.good H0 (by have := hs.lo; have := hs.bu; omega) (by have := hs.ut; have := hs.hi; omega) hs.hi (by have := hs.lo; omega) h2).mono ?_
  rintro e w1 ⟨rfl, u', a1, a2, a3, a4, H1⟩
  refine ⟨rfl, ⟨cutF s.val n, n, u', mxI s.top n⟩, ⟨rfl, rfl, ?_⟩, Own.log_shut (s := ⟨cutF s.val n, n, u', mxI s.top n⟩) H1⟩
  rw [mxI_eq, mxI_eq] at a2
  rw [mxI_eq] at a1 a3 a4
  rw [mxI_eq]
  have b1 := hs.lo
  have b2 := hs.bu
  have b3 := hs.ut
  have b4 := hs.hi
  have hval : ∀ k, cutF s.val n k ≠ none → n ≤ k ∧ k < max s.top n := by
    intro k hk
    unfold cutF at hk
    split at hk
    · exact absurd rfl hk
    · have := hs.val k hk; omega
  constructor
  · show 0 ≤ n; omega
  · show n ≤ u'; omega
  · show u' ≤ max s.top n; omega
  · show max s.top n ≤ 4096; omega
  · exact hval
  · show ∀ k, n ≤ k → k < u' → cutF s.val n k ≠ none
    intro k k1 k2
    by_cases hk : max s.upto n ≤ k
    · exact a3 k hk k2
    · have : ¬ k < n := by omega
      simp only [cutF, if_neg this]
      exact hs.full k (by omega) (by omega)
  · show cutF s.val n u' = none
    rcases a4 with h | h
    · exact h
    · cases hc : cutF s.val n u' with
      | none => rfl
      | some x => have := hval u' (by rw [hc]; simp); omega
  · show max s.top n = n ∨ cutF s.val n (max s.top n - 1) ≠ none
    by_cases ht : s.top ≤ n
    · left; omega
    · right
      have e : max s.top n = s.top := by omega
      have : ¬ s.top - 1 < n := by omega
      rw [e]
      simp only [cutF, if_neg this]
      rcases hs.last with h | h
      · omega
      · exact h
  · intro k v hv
    have hv : cutF s.val n k = some v := hv
    unfold cutF at hv
    split at hv
    · cases hv
    · exact hs.sz k v hv
end
end Sk
/- Package slots: Put, Get, .. -/
namespace Sk
open Go Go.RowKit Go.Proofs
theorem neqMapS (m : Option Nat) (w : World) : (binOp .neq 161 (.map m) (.map none)).run Tryz.prog w = .ok (.bool (!m.isNone)) w := run_neq_map_nil w _ 3 9 m Tryz.underlying161
attribute [local go_sem] neqMapS
attribute [local go_sem ↓] run_max_hide run_min_hide
section
variable {W w : World} {L : List Asn} {b : Nat} {s : Log}
set_option maxRecDepth 100000 in
set_option maxHeartbeats 1000000 in
theorem logUpto (H : Own W w (logA b s :: L)) : Calls Tryz.prog 61 #[ptr b] w fun e w' => e = .returned (ei s.upto) ∧ w = w' := by
  obtain ⟨m, H0⟩ := H.log_open
  have hc := H0.cell
  have hf := H0.free
  have hlt := H0.lt
  go_enter Tryz.func61, Tryz.ntmps61
  go_wp2_with (go_at_call 122; go_in)
  go_ret
  exact ⟨rfl, rfl⟩
set_option maxRecDepth 100000 in
set_option maxHeartbeats 1000000 in
theorem logBase (H : Own W w (logA b s :: L)) : Calls Tryz.prog 107 #[ptr b] w fun e w' => e = .returned (ei s.base) ∧ w = w' := by
  obtain ⟨m, H0⟩ := H.log_open
  have hc := H0.cell
  have hf := H0.free
  have hlt := H0.lt
  go_enter Tryz.func107, Tryz.ntmps107
  go_wp2_with (go_at_call 122; go_in)
  go_ret
  exact ⟨rfl, rfl⟩
def getV (s : Log) (k : Int) : Value := match s.val k with | some v => .tuple #[.string v, .bool true] | none => .tuple #[.string ByteArray.empty, .bool false]
set_option maxRecDepth 100000 in
set_option maxHeartbeats 1000000 in
theorem logGet (H : Own W w (logA b s :: L)) (k : Int) (hk : goodInt k) : Calls Tryz.prog 63 #[ptr b, ei k] w fun e w' => e = .returned (getV s k) ∧ w = w' := by
  obtain ⟨m, H0⟩ := H.log_open
  have hc := H0.cell
  have hf := H0.free
  have hlt := H0.lt
  rcases h : s.val k with _ | v
  · have e : getV s k = .tuple #[.string ByteArray.empty, .bool false] := by unfold getV; rw [h]
    rw [e]
    have hlk := H0.front2.lookup_none strT hk h
    clear h hk e
    go_enter Tryz.func63, Tryz.ntmps63
    go_wp2_with (go_at_call 122; go_in)
    go_ret2
    exact ⟨rfl, rfl⟩
  · have e : getV s k = .tuple #[.string v, .bool true] := by unfold getV; rw [h]
    rw [e]
    have hlk := H0.front2.lookup_some strT hk h
    clear h hk e
    go_enter Tryz.func63, Tryz.ntmps63
    go_wp2_with (go_at_call 122; go_in)
    go_ret2
    exact ⟨rfl, rfl⟩
def checkU (u : Int) : Int := if u < 0 ∨ 4096 < u then 2 else 0
theorem checkU_no {u : Int} (h : u < 0 ∨ 4096 < u) : checkU u = 2 := if_pos h
theorem checkU_yes {u : Int} (h : ¬ (u < 0 ∨ 4096 < u)) : checkU u = 0 := if_neg h
set_option maxRecDepth 100000 in
set_option maxHeartbeats 1000000 in
theorem logCheck (H : Own W w (logA b s :: L)) (u : Int) : Calls Tryz.prog 127 #[ptr b, ei u] w fun e w' => e = .returned (ei (checkU u)) ∧ w = w' := by
  obtain ⟨m, H0⟩ := H.log_open
  have hc := H0.cell
  have hf := H0.free
  have hlt := H0.lt
  by_cases hu : u < 0 ∨ 4096 < u
  · rw [checkU_no hu]
    by_cases h0 : u < 0
    · clear hu
      go_enter Tryz.func127, Tryz.ntmps127
      go_wp2_with (go_at_call 122; go_in)
      go_ret
      exact ⟨rfl, rfl⟩
    · have h1 : 4096 < u := by omega
      clear hu
      go_enter Tryz.func127, Tryz.ntmps127
      go_wp2_with (go_at_call 122; go_in)
      go_ret
      exact ⟨rfl, rfl⟩
  · rw [checkU_yes hu]
    have h0 : 0 ≤ u := by omega
    have h1 : u ≤ 4096 := by omega
    clear hu
    go_enter Tryz.func127, Tryz.ntmps127
    go_wp2_with (go_at_call 122; go_in)
    go_ret
    exact ⟨rfl, rfl⟩
/-- Put: the error. -/
def Log.putE (s : Log) (k : Int) (v : Bs) : Int :=
  if k < 0 ∨ 4096 ≤ k then 2 else if 65536 < v.size then 11 else if k < s.base then 8 else if (∃ x, s.val k = some x ∧ x ≠ v) then 9 else 0
def Log.putTo (s t : Log) (k : Int) (v : Bs) : Prop := (s.putE k v ≠ 0 ∧ t = s) ∨ (s.putE k v = 0 ∧ t.val = fset s.val k (some v) ∧ t.base = s.base ∧ t.ok)
theorem str_ne {x v : Bs} (h : x ≠ v) : (ByteArray.toList x == ByteArray.toList v) = false := by
  rw [ByteArray.toList_eq, ByteArray.toList_eq, beq_eq_false_iff_ne]
  exact fun e => h (ByteArray.ext (Array.toList_inj.1 e))
theorem put_long {t v : Bs} (h : 65536 < v.size) : 65536 < (v.size : Int) := by omega
def PutPost (W : World) (L : List Asn) (b : Nat) (s : Log) (k : Int) (v : Bs) (en : Ending) (w : World) : Prop :=
  en = .returned (ei (s.putE k v)) ∧ ∃ t, s.putTo t k v ∧ Own W w (logA b t :: L)
theorem putPost_no {k : Int} {v : Bs} {er : Int} (h : s.putE k v = er) (h0 : er ≠ 0) (H : Own W w (logA b s :: L)) : PutPost W L b s k v (.returned (ei er)) w := by
  subst h
  exact ⟨rfl, s, .inl ⟨h0, rfl⟩, H⟩
theorem put_yes {m : Nat} {k u' : Int} {v : Bs} (hs : s.ok) (he : s.putE k v = 0) (h2 : 0 ≤ k) (h3 : k < 4096) (h5 : s.base ≤ k) (a1 : s.upto ≤ u') (a2 : u' ≤ max s.upto (mxI s.top (k + 1)))
    (a3 : ∀ i, s.upto ≤ i → i < u' → fset s.val k (some v) i ≠ none) (a4 : fset s.val k (some v) u' = none ∨ mxI s.top (k + 1) ≤ u') (H : Own W w (blk b (logC m s.base u' (mxI s.top (k + 1))) :: strM m (fset s.val k (some v)) :: L)) : PutPost W L b s k v (.returned (ei 0)) w := by
  rw [mxI_eq] at a2 a4 H
  refine ⟨by rw [he], ⟨fset s.val k (some v), s.base, u', max s.top (k + 1)⟩, .inr ⟨he, rfl, rfl, ?_⟩, Own.log_shut (s := ⟨fset s.val k (some v), s.base, u', max s.top (k + 1)⟩) H⟩
  have b1 := hs.lo
  have b2 := hs.bu
  have b3 := hs.ut
  have b4 := hs.hi
  have hval : ∀ i, fset s.val k (some v) i ≠ none → s.base ≤ i ∧ i < max s.top (k + 1) := by
    intro i hi
    by_cases hik : i = k
    · subst hik; omega
    · simp only [fset, if_neg hik] at hi
      have := hs.val i hi; omega
  constructor
  · exact b1
  · show s.base ≤ u'; omega
  · show u' ≤ max s.top (k + 1); omega
  · show max s.top (k + 1) ≤ 4096; omega
  · exact hval
  · show ∀ i, s.base ≤ i → i < u' → fset s.val k (some v) i ≠ none
    intro i k1 k2
    by_cases hi : s.upto ≤ i
    · exact a3 i hi k2
    · by_cases hik : i = k
      · subst hik; simp [fset]
      · simp only [fset, if_neg hik]
        exact hs.full i k1 (by omega)
  · show fset s.val k (some v) u' = none
    rcases a4 with h | h
    · exact h
    · cases hc : fset s.val k (some v) u' with
      | none => rfl
      | some x => have := hval u' (by rw [hc]; simp); omega
  · show max s.top (k + 1) = s.base ∨ fset s.val k (some v) (max s.top (k + 1) - 1) ≠ none
    right
    by_cases ht : s.top ≤ k + 1
    · have e : max s.top (k + 1) - 1 = k := by omega
      rw [e]; simp [fset]
    · have e : max s.top (k + 1) = s.top := by omega
      have hne : s.top - 1 ≠ k := by omega
      rw [e]
      simp only [fset, if_neg hne]
      rcases hs.last with h | h
      · omega
      · exact h
  · intro i x hx
    have hx : fset s.val k (some v) i = some x := hx
    by_cases hik : i = k
    · subst hik
      simp only [fset, if_true] at hx
      cases hx
      unfold Log.putE at he
      split at he
      · cases he
      · split at he
        · cases he
        · omega
    · simp only [fset, if_neg hik] at hx
      exact hs.sz i x hx
set_option maxRecDepth 100000 in
set_option maxHeartbeats 4000000 in
theorem logPut (H : Own W w (logA b s :: L)) (hs : s.ok) (k : Int) (v : Bs) (hv : v.size ≤ 140737488355328) : Calls Tryz.prog 39 #[ptr b, ei k, .string v] w (PutPost W L b s k v) := by
  obtain ⟨m, H0⟩ := H.log_open
  have hc := H0.cell
  have hf := H0.free
  have hlt := H0.lt
  have HS := Lib.hid hs
  by_cases h1 : k < 0 ∨ 4096 ≤ k
  · have he : s.putE k v = 2 := if_pos h1
    have HE := Lib.hid he
    clear hs he
    by_cases h0 : k < 0
    · clear h1
      go_enter Tryz.func39, Tryz.ntmps39
      go_wp2_with (go_at_call 122; go_in)
      go_ret
      exact putPost_no HE.out (by decide) H
    · have h2 : 4096 ≤ k := by omega
      clear h1
      go_enter Tryz.func39, Tryz.ntmps39
      go_wp2_with (go_at_call 122; go_in)
      go_ret
      exact putPost_no HE.out (by decide) H
  · have h2 : 0 ≤ k := by omega
    have h3 : k < 4096 := by omega
    have hgk : goodInt k := goodInt_of (by omega) (by omega)
    by_cases h4 : 65536 < v.size
    · have he : s.putE k v = 11 := by unfold Log.putE; rw [if_neg h1, if_pos h4]
      have HE := Lib.hid he
      clear hs he h1 hgk
      have h4' : 65536 < (v.size : Int) := by omega
      go_enter Tryz.func39, Tryz.ntmps39
      go_wp2_with (go_at_call 122; go_in)
      go_ret
      exact putPost_no HE.out (by decide) H
    · have h4' : (v.size : Int) ≤ 65536 := by omega
      by_cases h5 : k < s.base
      · have he : s.putE k v = 8 := by unfold Log.putE; rw [if_neg h1, if_neg h4, if_pos h5]
        have HE := Lib.hid he
        clear hs he h1 hgk h4
        go_enter Tryz.func39, Tryz.ntmps39
        go_wp2_with (go_at_call 122; go_in)
        go_ret
        exact putPost_no HE.out (by decide) H
      · have h5' : s.base ≤ k := by omega
        rcases hx : s.val k with _ | x
        · have he : s.putE k v = 0 := by unfold Log.putE; rw [if_neg h1, if_neg h4, if_neg h5, if_neg (by simp [hx])]
          have hlk := H0.front2.lookup_none strT hgk hx
          obtain ⟨w1, hst, H1⟩ := H0.front2.store strT hgk v
          have HE := Lib.hid he
          have H2 := H1.front2
          have hc1 := H2.cell
          have hf1 := H2.free
          have H3 := H2.set 3 (ei (mxI s.top (k + 1)))
          have hmx := mxI_eq s.top (k + 1)
          have hfi := Lib.hid (fillC H3 (by have := hs.lo; have := hs.bu; omega) (by have := hs.ut; have := hs.hi; omega) (by rw [hmx]; have := hs.hi; omega))
          clear hs he h1 hgk h4 h5 hx hmx
          go_enter Tryz.func39, Tryz.ntmps39
          go_wp2_with (first | (go_at_call 122; go_in) | (go_at_call 123; refine hfi.out.mono ?_; rintro e w3 ⟨rfl, u', a1, a2, a3, a4, H6⟩))
          go_ret
          exact put_yes HS.out HE.out h2 h3 h5' a1 a2 a3 a4 H6
        · by_cases hxv : x = v
          · subst hxv
            have he : s.putE k x = 0 := by unfold Log.putE; rw [if_neg h1, if_neg h4, if_neg h5, if_neg (by simp [hx])]
            have hlk := H0.front2.lookup_some strT hgk hx
            obtain ⟨w1, hst, H1⟩ := H0.front2.store strT hgk x
            have HE := Lib.hid he
            have H2 := H1.front2
            have hc1 := H2.cell
            have hf1 := H2.free
            have H3 := H2.set 3 (ei (mxI s.top (k + 1)))
            have hmx := mxI_eq s.top (k + 1)
            have hfi := Lib.hid (fillC H3 (by have := hs.lo; have := hs.bu; omega) (by have := hs.ut; have := hs.hi; omega) (by rw [hmx]; have := hs.hi; omega))
            clear hs he h1 hgk h4 h5 hx hmx
            go_enter Tryz.func39, Tryz.ntmps39
            go_wp2_with (first | (go_at_call 122; go_in) | (go_at_call 123; refine hfi.out.mono ?_; rintro e w3 ⟨rfl, u', a1, a2, a3, a4, H6⟩))
            go_ret
            exact put_yes HS.out HE.out h2 h3 h5' a1 a2 a3 a4 H6
          · have he : s.putE k v = 9 := by unfold Log.putE; rw [if_neg h1, if_neg h4, if_neg h5, if_pos ⟨x, hx, hxv⟩]
            have hlk := H0.front2.lookup_some strT hgk hx
            have HE := Lib.hid he
            clear hs he h1 hgk h4 h5 hx
            go_enter Tryz.func39, Tryz.ntmps39
            have hq : (ByteArray.toList x == ByteArray.toList v) = false := str_ne hxv
            clear hxv
            go_wp2_with (go_at_call 122; go_in)
            go_ret
            exact putPost_no HE.out (by decide) H
/-- Forget: the error. -/
def Log.forgetE (s : Log) (u : Int) : Int := if u < 0 ∨ 4096 < u then 2 else if s.upto < u then 3 else 0
def Log.forgetTo (s t : Log) (u : Int) : Prop := (¬ (s.forgetE u = 0 ∧ s.base < u) ∧ t = s) ∨ (s.forgetE u = 0 ∧ s.base < u ∧ s.cutTo t u)
def ForgetPost (W : World) (L : List Asn) (b : Nat) (s : Log) (u : Int) (en : Ending) (w : World) : Prop :=
  en = .returned (ei (s.forgetE u)) ∧ ∃ t, s.forgetTo t u ∧ Own W w (logA b t :: L)
set_option maxRecDepth 100000 in
set_option maxHeartbeats 4000000 in
theorem logForget (H : Own W w (logA b s :: L)) (hs : s.ok) (u : Int) : Calls Tryz.prog 43 #[ptr b, ei u] w (ForgetPost W L b s u) := by
  obtain ⟨m, H0⟩ := H.log_open
  have hc := H0.cell
  have hf := H0.free
  have hlt := H0.lt
  have hck := logCheck H u
  by_cases h1 : u < 0 ∨ 4096 < u
  · have he : s.forgetE u = 2 := if_pos h1
    rw [checkU_no h1] at hck
    have HE := Lib.hid he
    have HC := Lib.hid hck
    clear hs he hck h1
    go_enter Tryz.func43, Tryz.ntmps43
    go_wp2_with (go_at_call 127; refine HC.out.mono ?_; rintro e w' ⟨rfl, rfl⟩)
    go_ret
    exact ⟨ret_ei HE.out, s, .inl ⟨by rw [HE.out]; simp, rfl⟩, H⟩
  · rw [checkU_yes h1] at hck
    by_cases h2 : s.upto < u
    · have he : s.forgetE u = 3 := by unfold Log.forgetE; rw [if_neg h1, if_pos h2]
      have HE := Lib.hid he
      have HC := Lib.hid hck
      clear hs he hck h1
      go_enter Tryz.func43, Tryz.ntmps43
      go_wp2_with (go_at_call 127; refine HC.out.mono ?_; rintro e w' ⟨rfl, rfl⟩)
      go_ret
      exact ⟨ret_ei HE.out, s, .inl ⟨by rw [HE.out]; simp, rfl⟩, H⟩
    · have he : s.forgetE u = 0 := by unfold Log.forgetE; rw [if_neg h1, if_neg h2]
      by_cases h3 : s.base < u
      · have hcu := Lib.hid (logCut H hs u (by omega) (by omega))
        have HE := Lib.hid he
        have HC := Lib.hid hck
        clear hs he hck h1
        go_enter Tryz.func43, Tryz.ntmps43
        go_wp2_with (first | (go_at_call 127; refine HC.out.mono ?_; rintro e w' ⟨rfl, rfl⟩) | (go_at_call 128; refine hcu.out.mono ?_; rintro e w' ⟨rfl, t, ht, H2⟩))
        go_ret
        exact ⟨ret_ei HE.out, t, .inr ⟨HE.out, h3, ht⟩, H2⟩
      · have HE := Lib.hid he
        have HC := Lib.hid hck
        clear hs he hck h1
        go_enter Tryz.func43, Tryz.ntmps43
        go_wp2_with (go_at_call 127; refine HC.out.mono ?_; rintro e w' ⟨rfl, rfl⟩)
        go_ret
        exact ⟨ret_ei HE.out, s, .inl ⟨by omega, rfl⟩, H⟩
/-- Jump: the error. -/
def Log.jumpE (s : Log) (u : Int) : Int := if u < 0 ∨ 4096 < u then 2 else if u < s.upto then 8 else 0
def Log.jumpTo (s t : Log) (u : Int) : Prop := (s.jumpE u ≠ 0 ∧ t = s) ∨ (s.jumpE u = 0 ∧ s.cutTo t u)
def JumpPost (W : World) (L : List Asn) (b : Nat) (s : Log) (u : Int) (en : Ending) (w : World) : Prop :=
  en = .returned (ei (s.jumpE u)) ∧ ∃ t, s.jumpTo t u ∧ Own W w (logA b t :: L)
set_option maxRecDepth 100000 in
set_option maxHeartbeats 4000000 in
theorem logJump (H : Own W w (logA b s :: L)) (hs : s.ok) (u : Int) : Calls Tryz.prog 172 #[ptr b, ei u] w (JumpPost W L b s u) := by
  obtain ⟨m, H0⟩ := H.log_open
  have hc := H0.cell
  have hf := H0.free
  have hlt := H0.lt
  have hck := logCheck H u
  by_cases h1 : u < 0 ∨ 4096 < u
  · have he : s.jumpE u = 2 := if_pos h1
    rw [checkU_no h1] at hck
    have HE := Lib.hid he
    have HC := Lib.hid hck
    clear hs he hck h1
    go_enter Tryz.func172, Tryz.ntmps172
    go_wp2_with (go_at_call 127; refine HC.out.mono ?_; rintro e w' ⟨rfl, rfl⟩)
    go_ret
    exact ⟨ret_ei HE.out, s, .inl ⟨by rw [HE.out]; simp, rfl⟩, H⟩
  · rw [checkU_yes h1] at hck
    by_cases h2 : u < s.upto
    · have he : s.jumpE u = 8 := by unfold Log.jumpE; rw [if_neg h1, if_pos h2]
      have HE := Lib.hid he
      have HC := Lib.hid hck
      clear hs he hck h1
      go_enter Tryz.func172, Tryz.ntmps172
      go_wp2_with (go_at_call 127; refine HC.out.mono ?_; rintro e w' ⟨rfl, rfl⟩)
      go_ret
      exact ⟨ret_ei HE.out, s, .inl ⟨by rw [HE.out]; simp, rfl⟩, H⟩
    · have he : s.jumpE u = 0 := by unfold Log.jumpE; rw [if_neg h1, if_neg h2]
      have hcu := Lib.hid (logCut H hs u (by have := hs.bu; omega) (by omega))
      have HE := Lib.hid he
      have HC := Lib.hid hck
      clear hs he hck h1
      go_enter Tryz.func172, Tryz.ntmps172
      go_wp2_with (first | (go_at_call 127; refine HC.out.mono ?_; rintro e w' ⟨rfl, rfl⟩) | (go_at_call 128; refine hcu.out.mono ?_; rintro e w' ⟨rfl, t, ht, H2⟩))
      go_ret
      exact ⟨ret_ei HE.out, t, .inr ⟨HE.out, ht⟩, H2⟩
end
end Sk
