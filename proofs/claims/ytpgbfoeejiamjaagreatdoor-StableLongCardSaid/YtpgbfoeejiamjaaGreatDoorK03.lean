/- Parts of slices. -/
import Derived.Test.YtpgbfoeejiamjaaGreatDoorK02
import Derived.Laws.IdiomStrings
import Derived.Laws.BytesArg
import Derived.Test.YtpgbfoeejiamjaaGreatDoorK01
import Derived.Test.YtpgbfoeejiamjaaGreatDoorProg
import Derived.OrdersIn
import Derived.OrdersHeld
set_option linter.all false
set_option linter.unusedVariables false
set_option linter.unusedSimpArgs false
set_option linter.unusedSectionVars false
namespace Sk
open Go Go.RowKit
def sliceSem (t : TypeId) (x : Value) (lo hi mx : Option Value) : Sem Value := Instr.sliceAt t x lo hi mx
theorem slice_hide (t : TypeId) (x : Value) (lo hi mx : Option Value) : Instr.sliceAt t x lo hi mx = sliceSem t x lo hi mx := rfl
/-- Where a part of a slice begins. -/
def slP (A : Option Addr) (c k size : Nat) : Option Addr := if c = k then A else A.map (·.add (k * size))
section
variable {P : Program} {W w : World} {L : List Asn} {t e : TypeId} {size bytes n c l h : Nat} {A : Option Addr} {xs : List Value}
theorem SlT.size_run (T : SlT P t e size bytes) (w : World) : (Go.sizeOf e).run P w = .ok size w := by
  obtain ⟨i, z, hi, _, hs, _⟩ := T.info
  simp [Go.sizeOf, typeInfo, hi, hs]
theorem SlT.elem (T : SlT P t e size bytes) : P.elem t = e := by simp [Program.elem, T.type]
theorem slice_l_eq (T : SlT P t e size bytes) {kd : IntKind} (hl : l ≤ n) (w : World) : (sliceSem t (.slice A n c) (some (.int kd (l : Int))) none none).run P w = .ok (.slice (slP A c l size) (n - l) (c - l)) w := by
  have ht' : P.underlying t = some (.slice (P.elem t)) := by rw [T.elem]; exact T.type
  rw [sliceSem, run_sliceAt_slice w t _ _ _ _ ht', run_slice_l w t _ _ _ ht' kd _ (by omega) (by omega), T.elem, T.size_run]
  simp [Result.andThen, sliced, slP]
theorem slice_lh_eq (T : SlT P t e size bytes) {kd kd' : IntKind} (hl : l ≤ h) (hh : h ≤ c) (w : World) : (sliceSem t (.slice A n c) (some (.int kd (l : Int))) (some (.int kd' (h : Int))) none).run P w = .ok (.slice (slP A c l size) (h - l) (c - l)) w := by
  have ht' : P.underlying t = some (.slice (P.elem t)) := by rw [T.elem]; exact T.type
  rw [sliceSem, run_sliceAt_slice w t _ _ _ _ ht', run_slice_lh w t _ _ _ ht' kd kd' _ _ (by omega) (by omega) (by omega), T.elem, T.size_run]
  simp [Result.andThen, sliced, slP]
theorem slice_h_eq (T : SlT P t e size bytes) {kd' : IntKind} (hh : h ≤ c) (w : World) : (sliceSem t (.slice A n c) none (some (.int kd' (h : Int))) none).run P w = .ok (.slice (slP A c 0 size) h c) w := by
  have ht' : P.underlying t = some (.slice (P.elem t)) := by rw [T.elem]; exact T.type
  rw [sliceSem, run_sliceAt_slice w t _ _ _ _ ht', run_slice_h w t _ _ _ ht' kd' _ (by omega) (by omega), T.elem, T.size_run]
  simp [Result.andThen, sliced, slP]
theorem slice_0_eq (T : SlT P t e size bytes) {kd' : IntKind} (w : World) : (sliceSem t (.slice A n c) none (some (.int kd' 0)) none).run P w = .ok (.slice (slP A c 0 size) 0 c) w := slice_h_eq (h := 0) T (Nat.zero_le _) w
theorem add_add (a : Addr) (m j : Nat) : (a.add m).add j = a.add (m + j) := by
  unfold Addr.add
  by_cases hm : m = 0
  · subst hm; simp
  · by_cases hj : j = 0
    · subst hj; simp
    · have : ¬ m + j = 0 := by omega
      simp [hm, hj, this, Nat.add_assoc]
theorem win_len (hl : xs.length = n * size) (h1 : l ≤ h) (h2 : h ≤ n) : ((xs.drop (l * size)).take ((h - l) * size)).length = (h - l) * size := by
  rw [List.length_take, List.length_drop, hl, ← Nat.sub_mul]
  exact Nat.min_eq_left (Nat.mul_le_mul_right _ (by omega))
theorem win_at {j : Nat} {u : Value} (hu : ((xs.drop (l * size)).take ((h - l) * size))[j]? = some u) : xs[l * size + j]? = some u := by
  rw [List.getElem?_take] at hu
  split at hu
  · rwa [List.getElem?_drop] at hu
  · cases hu
theorem RdW.window (hr : RdW w size (.slice A n c) n xs) (h1 : l ≤ h) (h2 : h ≤ n) : RdW w size (.slice (slP A c l size) (h - l) (c - l)) (h - l) ((xs.drop (l * size)).take ((h - l) * size)) := by
  obtain ⟨hl, A', c', e1, e2, e3, e4⟩ := hr
  cases e1
  refine ⟨win_len hl h1 h2, slP A c l size, c - l, rfl, by omega, by omega, fun hn => ?_⟩
  obtain ⟨ad, rfl, e6⟩ := e4 (by omega)
  have : ¬ c = l := by omega
  refine ⟨ad.add (l * size), by simp [slP, this], fun j u hu => ?_⟩
  rw [add_add]
  exact e6 _ _ (win_at hu)
theorem Own.sl_window (H : Own W w (slA size (.slice A n c) n xs :: L)) (h1 : l ≤ h) (h2 : h ≤ n) : Own W w (slA size (.slice (slP A c l size) (h - l) (c - l)) (h - l) ((xs.drop (l * size)).take ((h - l) * size)) :: L) := by
  refine H.imp1 fun _ r ⟨hl, A', c', e1, e2, e3, e4⟩ => ?_
  cases e1
  refine ⟨win_len hl h1 h2, slP A c l size, c - l, rfl, by omega, by omega, fun hn => ?_⟩
  obtain ⟨ad, rfl, e6⟩ := e4 (by omega)
  have : ¬ c = l := by omega
  refine ⟨ad.add (l * size), by simp [slP, this], fun j u hu => ?_⟩
  rw [add_add]
  exact e6 _ _ (win_at hu)
theorem Own.sl_tail (H : Own W w (slA size (.slice A n c) n xs :: L)) (h1 : l ≤ n) : Own W w (slA size (.slice (slP A c l size) (n - l) (c - l)) (n - l) (xs.drop (l * size)) :: L) := by
  have hl := H.sl_rd.len
  have h := H.sl_window h1 (Nat.le_refl n)
  rwa [List.take_of_length_le (by rw [List.length_drop, hl, ← Nat.sub_mul]; exact Nat.le_refl _)] at h
theorem RdW.tail (hr : RdW w size (.slice A n c) n xs) (h1 : l ≤ n) : RdW w size (.slice (slP A c l size) (n - l) (c - l)) (n - l) (xs.drop (l * size)) := by
  have hl := hr.len
  have h := hr.window h1 (Nat.le_refl n)
  rwa [List.take_of_length_le (by rw [List.length_drop, hl, ← Nat.sub_mul]; exact Nat.le_refl _)] at h
theorem RdW.conv {v : Value} {l : List UInt8} {src dst : TypeId} (hr : RdW w 1 v l.length (l.map fun c => Value.int .u8 (c.toNat : Int))) (hs : P.underlying src = some (.slice e)) (he : P.underlying e = some (.int .u8)) (hd : P.underlying dst = some .string) :
    (convert src dst v).run P w = .ok (.string ⟨l.toArray⟩) w := by
  obtain ⟨hl, A, c, rfl, e2, e3, e4⟩ := hr
  rcases Nat.eq_zero_or_pos l.length with h | h
  · have : l = [] := List.eq_nil_of_length_eq_zero h
    subst this
    have hz : (convert src dst (.slice A 0 c)).run P w = .ok (.string ByteArray.empty) w := by
      rw [run_convert_bytes_string w src dst e _ 0 c hs he hd]
      cases A <;> simp [Conv.bytesToString, loadCells]
      all_goals rfl
    exact hz
  · obtain ⟨ad, rfl, e6⟩ := e4 h
    refine run_convert_bytes_back w src dst e ad c l hs he hd fun j hj => e6 j _ ?_
    simp [List.getElem?_eq_getElem hj]
end
end Sk
/- max and min under names. -/
namespace Sk
open Go Go.RowKit
def mxI (x y : Int) : Int := if y > x then y else x
def mnI (x y : Int) : Int := if y < x then y else x
theorem mxI_eq (x y : Int) : mxI x y = max x y := by unfold mxI; split <;> omega
theorem mnI_eq (x y : Int) : mnI x y = min x y := by unfold mnI; split <;> omega
theorem run_max_hide {P : Program} {w : World} (ts : Array TypeId) (t : TypeId) (k k' : IntKind) (x y : Int) : (Builtin.max_ ts t #[.int k x, .int k' y]).run P w = .ok (.int k (mxI x y)) w := by unfold mxI; simp only [run_max_int2]
theorem run_min_hide {P : Program} {w : World} (ts : Array TypeId) (t : TypeId) (k k' : IntKind) (x y : Int) : (Builtin.min_ ts t #[.int k x, .int k' y]).run P w = .ok (.int k (mnI x y)) w := by unfold mnI; simp only [run_min_int2]
/-- Comparing strings, under names. -/
def strNe (a b : ByteArray) : Bool := !(a.toList == b.toList)
def strEq (a b : ByteArray) : Bool := a.toList == b.toList
theorem strNe_hide (t : TypeId) (a b : ByteArray) : binOp .neq t (.string a) (.string b) = pure (.bool (strNe a b)) := binOp_string_neq t a b
theorem strEq_hide (t : TypeId) (a b : ByteArray) : binOp .eql t (.string a) (.string b) = pure (.bool (strEq a b)) := binOp_string_eql t a b
theorem strEq_iff (a b : ByteArray) : strEq a b = decide (a = b) := by
  unfold strEq
  rw [ByteArray.toList_eq, ByteArray.toList_eq]
  by_cases h : a = b
  · subst h; simp
  · rw [decide_eq_false h, beq_eq_false_iff_ne]
    exact fun e => h (ByteArray.ext (Array.toList_inj.1 e))
theorem strNe_iff (a b : ByteArray) : strNe a b = decide (a ≠ b) := by
  have := strEq_iff a b
  unfold strEq at this
  unfold strNe
  rw [this]
  by_cases h : a = b <;> simp [h]
end Sk
/- Package slots: the log, and its iterator. -/
namespace Sk
open Go Go.RowKit Go.Proofs
attribute [local go_sem] Oper.semAt_some
abbrev Bs := ByteArray
/-- A log: the values, the base, the first missing slot, and one more than the greatest slot that has had a value. -/
structure Log where
  val : Int → Option Bs
  base : Int
  upto : Int
  top : Int
@[reducible] def strV (_ : Int) (v : Bs) : Value := .string v
def strM (m : Nat) (f : Int → Option Bs) : Asn := mapA ik strV goodInt m f
@[reducible] def logC (m : Nat) (base upto top : Int) : Obj := .cells #[.map (some m), ei base, ei upto, ei top] 163
def logA (b : Nat) (s : Log) : Asn := exi fun m => grp [blk b (logC m s.base s.upto s.top), strM m s.val]
theorem strT : MapT Tryz.prog 161 3 9 ik goodInt (.string ByteArray.empty) where
  keyed := Maps.int_keyed Tryz.underlying3
  type := Tryz.underlying161
  zero := fun _ => by kernel_rfl
  inj := ik_inj
  key := fun k h => ⟨_, Maps.keyOf_int_mk Tryz.underlying3 h⟩
section
variable {W w : World} {L : List Asn} {b : Nat} {s : Log}
theorem Own.log_open (H : Own W w (logA b s :: L)) : ∃ m, Own W w (blk b (logC m s.base s.upto s.top) :: strM m s.val :: L) := by
  obtain ⟨m, H⟩ := Own.exi_iff.1 H
  exact ⟨m, Own.grp_iff.1 H⟩
theorem Own.log_shut {m : Nat} (H : Own W w (blk b (logC m s.base s.upto s.top) :: strM m s.val :: L)) : Own W w (logA b s :: L) := Own.exi_iff.2 ⟨m, Own.grp_iff.2 H⟩
set_option maxHeartbeats 1000000 in
theorem logNew (H : Own W w L) : Calls Tryz.prog 89 #[] w fun e w' => ∃ b, e = .returned (ptr b) ∧ Own W w' (logA b ⟨fun _ => none, 0, 0, 0⟩ :: L) := by
  have hmm := @run_makeMap Tryz.prog
  have H1 := (H.made ik strV goodInt).alloc (logC w.heap.size 0 0 0)
  rw [World.size_alloc] at H1
  go_enter Tryz.func89, Tryz.ntmps89
  go_wp2
  go_ret
  exact ⟨_, rfl, Own.log_shut (s := ⟨fun _ => none, 0, 0, 0⟩) H1⟩
end
set_option maxRecDepth 100000 in
set_option maxHeartbeats 1000000 in
theorem fromC (lb : Nat) (k : Int) (w : World) : Calls Tryz.prog 180 #[ptr lb, ei k] w fun e w' => e = .returned (.func (.func 212) #[] #[ptr (w.heap.size + 1), ptr w.heap.size]) ∧ (w.alloc (.cells #[ptr lb] 46)).alloc (.cells #[ei k] 3) = w' := by
  go_enter Tryz.func180, Tryz.ntmps180
  go_wp2
  go_ret
  exact ⟨rfl, rfl⟩
set_option maxRecDepth 100000 in
set_option maxHeartbeats 1000000 in
theorem from1 {W : World} (m l b1 b2 lb q : Nat) {f : Int → Option Bs} {base slot top : Int} (h0 : 0 ≤ slot) (h1 : slot ≤ 100000) (h2 : top ≤ 4096) (U Ux : Int → Int) (J Jx : Int → Asn)
    (hY : ∀ (i : Int) (w' : World) (R : List Asn), slot ≤ i → i < top → Own W w' (blk lb (logC q base (U i) top) :: J i :: strM q f :: R) → YieldAt FW m Tryz.prog l #[ei i, .bool (f i).isSome] w' fun e w'' =>
      (e = .returned (.bool true) ∧ Own W w'' (blk lb (logC q base (U (i + 1)) top) :: J (i + 1) :: strM q f :: R)) ∨ (e = .returned (.bool false) ∧ Own W w'' (blk lb (logC q base (Ux i) top) :: Jx i :: strM q f :: R)))
    (w : World) {L : List Asn} (H : Own W w (blk b1 (.cells #[ei slot] 3) :: blk b2 (.cells #[ptr lb] 46) :: blk lb (logC q base (U slot) top) :: J slot :: strM q f :: L)) :
    CallsIn FW (m + 1) Tryz.prog 212 #[.func (.yield l) #[] #[], ptr b1, ptr b2] w fun e w' => (∃ v, e = .returned v) ∧
      (Own W w' (blk lb (logC q base (U (max slot top)) top) :: J (max slot top) :: strM q f :: L) ∨ ∃ i, slot ≤ i ∧ i < top ∧ Own W w' (blk lb (logC q base (Ux i) top) :: Jx i :: strM q f :: L)) := by
  have hb := H.cell
  refine callsIn_of_wp Tryz.func212 rfl trivial ?_ rfl
  simp only [Tryz.ntmps212, List.size_toArray, List.length_cons, List.length_nil, Nat.reduceAdd, Nat.reduceSub, Array.replicate_succ, Array.replicate_zero, List.push_toArray, List.append_toArray, List.nil_append, List.cons_append]
  gi_wp2_with fail
  gi_loopw [4] (fun vi wr => ∃ i : Int, vi = ei i ∧ slot ≤ i ∧ i ≤ max slot top ∧ Own W wr (blk b2 (.cells #[ptr lb] 46) :: blk lb (logC q base (U i) top) :: J i :: strM q f :: L)) (fun vi _ => (max slot top).toNat - intN vi)
  case atStart => exact ⟨slot, rfl, by omega, by omega, H.drop⟩
  case round =>
    obtain ⟨i, rfl, hi1, hi2, HH⟩ := hrel
    have hc2 := HH.cell
    have hcl := HH.front2.cell
    by_cases hlt : i < top
    · have hgk : goodInt i := goodInt_of (by omega) (by omega)
      have hlk := HH.front4.lookup strT true hgk
      obtain ⟨fn, tmps, assign, body, hy, hR⟩ := hY i wr _ hi1 hlt (HH.sel [1, 2, 3])
      have HR := Lib.hid hR
      clear hR hgk hb
      rcases hfi : f i with _ | v
      · rw [hfi] at hlk hy
        simp only [if_true, Option.map_none, Option.getD_none, Option.isSome_none] at hlk hy
        have HF := Lib.hid hfi
        clear hfi
        gi_wp2_with fail
        refine HR.out.mono ?_
        rintro e W' (⟨rfl, H'⟩ | ⟨rfl, H'⟩)
        · gi_wp2_with fail
          exact ⟨⟨i + 1, by go_num, by omega, by omega, H'.sel [3, 0, 1, 2]⟩, by simp only [intN]; omega⟩
        · gi_wp2_with fail
          refine bodyPost_ret (results_none rfl _ _ _) rfl ?_
          exact ⟨⟨_, rfl⟩, .inr ⟨i, hi1, hlt, (H'.sel [0, 1, 2]).drop4⟩⟩
      · rw [hfi] at hlk hy
        simp only [if_true, Option.map_some, Option.getD_some, Option.isSome_some] at hlk hy
        have HF := Lib.hid hfi
        clear hfi
        gi_wp2_with fail
        refine HR.out.mono ?_
        rintro e W' (⟨rfl, H'⟩ | ⟨rfl, H'⟩)
        · gi_wp2_with fail
          exact ⟨⟨i + 1, by go_num, by omega, by omega, H'.sel [3, 0, 1, 2]⟩, by simp only [intN]; omega⟩
        · gi_wp2_with fail
          refine bodyPost_ret (results_none rfl _ _ _) rfl ?_
          exact ⟨⟨_, rfl⟩, .inr ⟨i, hi1, hlt, (H'.sel [0, 1, 2]).drop4⟩⟩
    · have : i = max slot top := by omega
      subst this
      clear hb
      gi_wp2_with fail
      refine bodyPost_end (results_none rfl _ _ _) rfl ?_
      exact ⟨⟨_, rfl⟩, .inl HH.drop⟩
end Sk
/- A region that draws its order, inside a fence: reads that nobody in the region disturbs are taken first, the rest comes in one order. -/
namespace Sk
open Go Go.RowKit
section
variable {F : Fence} {n : Nat} {P : Program} {ops : Array Oper} {Q : Exit → Act → World → Prop} {S : World → Prop} {fin : Nat → Bool}
/-- No way out but the end. -/
def OnlyEnd (Q : Exit → Act → World → Prop) : Exit → Act → World → Prop
  | .normal, a, w => Q .normal a w
  | _, _, _ => False
theorem OnlyEnd.imp : ∀ (e : Exit) (a : Act) (w : World), OnlyEnd Q e a w → Q e a w := fun e a w h => by cases e <;> first | exact h | exact (h : False).elim
def noDefer (ops : Array Oper) : Bool := ops.all fun o => match o.op with | .defer _ => false | _ => true
theorem noDefer_spec (h : noDefer ops = true) {j : Nat} {o : Oper} (hj : ops[j]? = some o) (c : Call) : o.op ≠ .defer c := by
  intro e
  have hm : o ∈ ops := Array.mem_of_getElem? hj
  have := Array.all_eq_true'.1 h o hm
  rw [e] at this; cases this
theorem wpOpIn_yields {i : Nat} {o : Oper} {v : Value} {a : Act} (hF : ∀ f, F.fn f) (hd : noDefer ops = true) (hi : ops[i]? = some o) (hy : YieldsIf P ops S o v a) {K : Act → World → Prop} {w : World} (hS : S w) (h : K (a.put o.dst v) w) :
    wpOpIn F n P ops Q i K a w := by
  unfold wpOpIn
  simp only [hi]
  rcases hy with ⟨hw, hv⟩ | ⟨hw, rfl⟩
  · simp only [hw, if_true]
    refine ⟨fun f _ => hF f, ?_⟩
    rw [Oper.semAt_eq F.round a.eval o (noDefer_spec hd hi), hv w hS]
    exact h
  · simp only [hw, Bool.false_eq_true, if_false]
    exact ⟨fun f _ => hF f, h⟩
theorem wpOpIn_putIf {j : Nat} {oi oj : Oper} {v : Value} (hF : ∀ f, F.fn f) (hd : noDefer ops = true) (hj : ops[j]? = some oj) (hap : oi.apart ops oj = true)
    (hsi : ∀ cs b, oi.op ≠ .select cs b) (hsj : ∀ cs b, oj.op ≠ .select cs b)
    {K : Act → World → Prop} {a : Act} {w : World} (hy : YieldsIf P ops S oi v a) (h : wpOpIn F n P ops (OnlyEnd Q) j K (a.put oi.dst v) w) :
    wpOpIn F n P ops (OnlyEnd Q) j (fun a' w' => YieldsIf P ops S oi v a' ∧ K (a'.put oi.dst v) w') a w := by
  obtain ⟨h1, h2, h3⟩ := Oper.apart_spec hap
  have hnd := noDefer_spec hd hj
  have keep : ∀ (a : Act), YieldsIf P ops S oi v a → ∀ u, YieldsIf P ops S oi v (a.put oj.dst u) := fun a hy u =>
    hy.of_same (execOp_put oi hsi a oj.dst u h3) (wanted_put oi a oj.dst u h3)
  unfold wpOpIn at *
  simp only [hj] at *
  rw [wanted_put oj a oi.dst v h1] at h
  split
  · rename_i hw
    simp only [hw, if_true] at h
    refine ⟨fun f _ => hF f, ?_⟩
    have h := h.2
    rw [Oper.semAt_eq F.round _ oj hnd] at h ⊢
    rw [execOp_put oj hsj a oi.dst v h1] at h
    generalize (execOp a.eval oj).run P w = r at *
    cases r with
    | ok m w' =>
      cases m <;> simp only [Oper.uponIn] at h ⊢
      case value u => exact ⟨keep a hy u, by rw [← Act.put_comm a v u h2]; exact h⟩
      case skip => exact ⟨keep a hy _, by rw [← Act.put_comm a v undef h2]; exact h⟩
      case defer d =>
        refine ⟨(hy.of_same rfl rfl : YieldsIf P ops S oi v { a with defers := d :: a.defers }).of_same (execOp_put oi hsi _ oj.dst undef h3) (wanted_put oi _ oj.dst undef h3), ?_⟩
        rw [← Act.put_comm _ v undef h2, ← Act.put_defers]
        exact h
      case enter f args =>
        refine ⟨h.1, CallsIn.mono h.2 fun e w'' he => ?_⟩
        cases e with
        | returned u => exact ⟨keep a hy u, by rw [← Act.put_comm a v u h2]; exact he⟩
        | panicked c => exact he
        | outgrown => exact he
      case row row args => exact ⟨h.1, RowsIn.mono h.2 fun u w'' he => ⟨keep a hy u, by rw [← Act.put_comm a v u h2]; exact he⟩⟩
      case round l f tmps assign body =>
        refine ⟨h.1, RoundIn.mono h.2 fun e w'' he => ?_⟩
        cases e with
        | returned u => exact ⟨keep a hy u, by rw [← Act.put_comm a v u h2]; exact he⟩
        | panicked c => exact he
        | outgrown => exact he
    | halt x w' =>
      cases x <;> simp only [Oper.uponIn] at h ⊢
      case panic u => exact h
  · rename_i hw
    simp only [hw] at h
    exact ⟨fun f _ => hF f, keep a hy _, by rw [← Act.put_comm a v undef h2]; exact h.2⟩
/-- Whatever order is picked from here on; S holds behind every operation but the last ones. -/
def wpAnyFl (F : Fence) (n : Nat) (P : Program) (ops : Array Oper) (Q : Exit → Act → World → Prop) (S : World → Prop) (fin : Nat → Bool) : Nat → Array Bool → Act → World → Prop
  | 0, listed, a, w => Region.ready .any ops listed = [] ∧ Q .normal a w
  | fuel + 1, listed, a, w =>
    (Region.ready .any ops listed = [] → Q .normal a w) ∧
    ∀ i ∈ Region.ready .any ops listed, wpOpIn F n P ops (OnlyEnd Q) i (fun a' w' => (fin i = false → S w') ∧ wpAnyFl F n P ops Q S fin fuel (listed.setIfInBounds i true) a' w') a w
theorem wpAnyIn_of_fl : ∀ (fuel : Nat) (listed : Array Bool) (a : Act) (w : World), wpAnyFl F n P ops Q S fin fuel listed a w → wpAnyIn F n P .any ops (OnlyEnd Q) fuel listed a w
  | 0, _, _, _, h => h
  | fuel + 1, _, _, _, h => ⟨h.1, fun i hi => wpOpIn_mono (fun a' w' h' => wpAnyIn_of_fl fuel _ a' w' h'.2) (h.2 i hi)⟩
/-- What waits, over some steps, for i. -/
def reachB (ops : Array Oper) : Nat → Nat → Nat → Bool
  | 0, _, _ => false
  | f + 1, j, i => match ops[j]? with
    | some o => o.after.any fun e => Region.binds .any e && (e.on == i || reachB ops f e.on i)
    | none => false
/-- Closed under what is waited for. -/
def Closed (ops : Array Oper) (listed : Array Bool) : Prop := ∀ (j : Nat) (o : Oper), ops[j]? = some o → listed.getD j false = true → ∀ e ∈ o.after, Region.binds .any e = true → listed.getD e.on false = true
theorem reach_listed {listed : Array Bool} (hc : Closed ops listed) : ∀ (f j i : Nat), reachB ops f j i = true → (∀ o, ops[j]? = some o → ∀ e ∈ o.after, Region.binds .any e = true → listed.getD e.on false = true) → listed.getD i false = true := by
  intro f
  induction f with
  | zero => intro j i h; cases h
  | succ f ih =>
    intro j i h hd
    unfold reachB at h
    cases hj : ops[j]? with
    | none => rw [hj] at h; cases h
    | some o =>
      rw [hj] at h
      obtain ⟨e, he, hb⟩ := Array.any_eq_true'.1 h
      simp only [Bool.and_eq_true, Bool.or_eq_true, beq_iff_eq] at hb
      have hl := hd o hj e he hb.1
      rcases hb.2 with h1 | h1
      · rw [← h1]; exact hl
      · exact ih e.on i h1 fun o' ho' e' he' hb' => hc e.on o' ho' hl e' he' hb'
theorem Closed.ready {listed : Array Bool} (hc : Closed ops listed) {i : Nat} (hi : i ∈ Region.ready .any ops listed) : Closed ops (listed.setIfInBounds i true) := by
  obtain ⟨_, oi, hoi, hall⟩ := mem_ready.1 hi
  intro j o hj hl e he hb
  by_cases hij : i = j
  · subst hij
    have : o = oi := Option.some.inj (hj.symm.trans hoi)
    subst this
    exact getD_set_true (hall e he hb)
  · rw [getD_set_ne false hij] at hl
    exact getD_set_true (hc j o hj hl e he hb)
theorem fl_first {i : Nat} {oi : Oper} {v : Value} (hF : ∀ f, F.fn f) (hd : noDefer ops = true) (hi : ops[i]? = some oi) (hsel : ∀ (j : Nat) (o : Oper) cs b, ops[j]? = some o → o.op ≠ .select cs b)
    (hfin : ∀ j, fin j = true → reachB ops 9 j i = true) :
    ∀ (fuel : Nat) (listed : Array Bool) (a : Act) (w : World), Closed ops listed →
      (∀ j oj, ops[j]? = some oj → j ≠ i → listed.getD j true = false → (∀ e ∈ oj.after, Region.binds .any e = true → e.on ≠ i) → oi.apart ops oj = true) →
      i ∈ Region.ready .any ops listed → YieldsIf P ops S oi v a → S w →
      wpAnyFl F n P ops Q S fin fuel (listed.setIfInBounds i true) (a.put oi.dst v) w → wpAnyFl F n P ops Q S fin (fuel + 1) listed a w := by
  intro fuel
  induction fuel with
  | zero =>
    intro listed a w _ _ hr hy hS H
    refine ⟨fun h => (by rw [h] at hr; cases hr), fun j hj => ?_⟩
    by_cases hji : j = i
    · subst hji; exact wpOpIn_yields hF hd hi hy hS ⟨fun _ => hS, H⟩
    · have := ready_mono hj hji
      rw [H.1] at this
      cases this
  | succ fuel ih =>
    intro listed a w hc hfree hr hy hS H
    refine ⟨fun h => (by rw [h] at hr; cases hr), fun j hj => ?_⟩
    by_cases hji : j = i
    · subst hji; exact wpOpIn_yields hF hd hi hy hS ⟨fun _ => hS, H⟩
    · have h1 := H.2 j (ready_mono hj hji)
      obtain ⟨hjun, oj, hoj, hall⟩ := mem_ready.1 hj
      have hiun := getD_both (mem_ready.1 hr).1
      have hnot : ∀ e ∈ oj.after, Region.binds .any e = true → e.on ≠ i := fun e he hb heq => by
        have h1 := hall e he hb
        rw [heq, hiun] at h1
        cases h1
      have hnf : fin j = false := by
        cases hf : fin j with
        | false => rfl
        | true =>
          have := reach_listed hc 9 j i (hfin j hf) (fun o ho e he hb => by
            have : o = oj := Option.some.inj (ho.symm.trans hoj)
            subst this
            exact hall e he hb)
          rw [hiun] at this; cases this
      have h2 := wpOpIn_putIf hF hd hoj (hfree j oj hoj hji hjun hnot) (fun cs b => hsel i oi cs b hi) (fun cs b => hsel j oj cs b hoj) hy h1
      have hfree' : ∀ k ok, ops[k]? = some ok → k ≠ i → (listed.setIfInBounds j true).getD k true = false →
          (∀ e ∈ ok.after, Region.binds .any e = true → e.on ≠ i) → oi.apart ops ok = true := fun k ok hk hki hun hno => by
        refine hfree k ok hk hki ?_ hno
        by_cases hjk : j = k
        · subst hjk; exact hjun
        · rw [getD_set_ne true hjk] at hun; exact hun
      refine wpOpIn_mono (fun a' w' h3 => ⟨fun _ => h3.2.1 hnf, ih (listed.setIfInBounds j true) a' w' (hc.ready hj) hfree' (ready_mono hr (Ne.symm hji)) h3.1 (h3.2.1 hnf) ?_⟩) h2
      rw [Array.setIfInBounds_comm _ _ hji]
      exact h3.2.2
/-! ### The two parts of the walk -/
/-- The reads, one after the other: one value in every world that meets S. -/
def wpHd (P : Program) (ops : Array Oper) (S : World → Prop) (Qh : Act → Prop) : List Nat → Act → Prop
  | [], a => Qh a
  | i :: rest, a => ∃ o v, ops[i]? = some o ∧ YieldsIf P ops S o v a ∧ wpHd P ops S Qh rest (a.put o.dst v)
/-- The others, in their one order. -/
def wpTl (F : Fence) (n : Nat) (P : Program) (ops : Array Oper) (Q : Exit → Act → World → Prop) (S : World → Prop) (fin : Nat → Bool) : List Nat → Act → World → Prop
  | [], a, w => Q .normal a w
  | i :: rest, a, w => wpOpIn F n P ops (OnlyEnd Q) i (fun a' w' => (fin i = false → S w') ∧ wpTl F n P ops Q S fin rest a' w') a w
def tailB (ops : Array Oper) : List Nat → Array Bool → Bool
  | [], listed => (Region.ready .any ops listed).isEmpty
  | i :: r, listed => decide (Region.ready .any ops listed = [i]) && tailB ops r (listed.setIfInBounds i true)
def headB (ops : Array Oper) (tail : List Nat) : List Nat → Array Bool → Bool
  | [], listed => tailB ops tail listed
  | i :: r, listed => (Region.ready .any ops listed).contains i && Region.free .any ops listed i && headB ops tail r (listed.setIfInBounds i true)
/-- The order, as the kernel checks it: heads, tail; the operations 'last' come when all heads have come. -/
def flB (ops : Array Oper) (heads tail last : List Nat) : Bool :=
  Region.noSelect ops && noDefer ops && last.all (fun j => heads.all fun i => reachB ops 9 j i) && decide (heads.length + tail.length = ops.size) && headB ops tail heads (Array.replicate ops.size false)
theorem fl_tail : ∀ (tail : List Nat) (listed : Array Bool) (a : Act) (w : World), tailB ops tail listed = true → wpTl F n P ops Q S fin tail a w → wpAnyFl F n P ops Q S fin tail.length listed a w
  | [], listed, a, w, hB, h => ⟨by simpa [tailB] using hB, h⟩
  | i :: r, listed, a, w, hB, h => by
    simp only [tailB, Bool.and_eq_true, decide_eq_true_eq] at hB
    refine ⟨fun h0 => (by rw [hB.1] at h0; cases h0), fun j hj => ?_⟩
    rw [hB.1] at hj
    have : j = i := by simpa using hj
    subst this
    exact wpOpIn_mono (fun a' w' h' => ⟨h'.1, fl_tail r _ a' w' hB.2 h'.2⟩) h
theorem fl_head (hF : ∀ f, F.fn f) (hd : noDefer ops = true) (hsel : Region.noSelect ops = true) {tail : List Nat} {w : World} (hS : S w) : ∀ (heads : List Nat) (listed : Array Bool) (a : Act), Closed ops listed →
    (∀ i ∈ heads, ∀ j, fin j = true → reachB ops 9 j i = true) → headB ops tail heads listed = true →
    wpHd P ops S (fun a' => wpTl F n P ops Q S fin tail a' w) heads a → wpAnyFl F n P ops Q S fin (heads.length + tail.length) listed a w
  | [], listed, a, _, _, hB, h => by
    rw [List.length_nil, Nat.zero_add]
    exact fl_tail tail listed a w hB h
  | i :: r, listed, a, hc, hfin, hB, ⟨o, v, hi, hy, hn⟩ => by
    simp only [headB, Bool.and_eq_true] at hB
    obtain ⟨⟨hr, hf⟩, hB'⟩ := hB
    have hr' : i ∈ Region.ready .any ops listed := by simpa using hr
    have := fl_head hF hd hsel hS r (listed.setIfInBounds i true) (a.put o.dst v) (hc.ready hr') (fun k hk => hfin k (by simp [hk])) hB' hn
    rw [show (i :: r).length + tail.length = (r.length + tail.length) + 1 by simp; omega]
    exact fl_first hF hd hi (Region.noSelect_spec hsel) (hfin i (by simp)) _ listed a w hc (Region.free_spec hi hf) hr' hy hS this
theorem closed_none : Closed ops (Array.replicate ops.size false) := fun j o hj hl => by
  rw [getD_replicate_false] at hl; cases hl
/-- **A region that draws its order, in a fence.** -/
theorem region_fl {id : Nat} {a : Act} {w : World} (heads tail last : List Nat) (S : World → Prop) (hF : ∀ f, F.fn f) (hm : P.follows .mixedOrders = true) (hB : flB ops heads tail last = true) (hS : S w.drew)
    (h : wpHd P ops S (fun a' => wpTl F n P ops Q S (fun i => last.contains i) tail a' w.drew) heads a) : (Code.region id ops true).wpIn F n P Q a w := by
  simp only [flB, Bool.and_eq_true, decide_eq_true_eq] at hB
  obtain ⟨⟨⟨⟨h1, h2⟩, h3⟩, h4⟩, h5⟩ := hB
  refine wpIn_mono (wpIn_region_any (Q := OnlyEnd Q) hm (wpAnyIn_of_fl (S := S) (fin := fun i => last.contains i) _ _ _ _ ?_)) OnlyEnd.imp
  have := fl_head (fin := fun i => last.contains i) hF h2 h1 hS heads (Array.replicate ops.size false) a closed_none (fun i hi j hj => by
    have hj' : j ∈ last := by simpa using hj
    exact List.all_eq_true.1 (List.all_eq_true.1 h3 j hj') i hi) h5 h
  rw [h4] at this
  exact this
/-! ### Steps -/
variable {Qh : Act → Prop} {rest : List Nat} {i : Nat} {o : Oper} {v : Value} {a : Act} {w : World}
theorem hd_on (hi : ops[i]? = some o) (hw : Region.wanted o (yielded ops a.tmps) = true) (hr : ∀ w', S w' → (execOp a.eval o).run P w' = .ok (.value v) w') (h : wpHd P ops S Qh rest (a.put o.dst v)) : wpHd P ops S Qh (i :: rest) a :=
  ⟨o, v, hi, .inl ⟨hw, hr⟩, h⟩
theorem hd_off (hi : ops[i]? = some o) (hw : Region.wanted o (yielded ops a.tmps) = false) (h : wpHd P ops S Qh rest (a.put o.dst undef)) : wpHd P ops S Qh (i :: rest) a :=
  ⟨o, undef, hi, .inr ⟨hw, rfl⟩, h⟩
theorem hd_nil (h : Qh a) : wpHd P ops S Qh [] a := h
theorem tl_nil (h : Q .normal a w) : wpTl F n P ops Q S fin [] a w := h
theorem tl_on (hF : ∀ f, F.fn f) (hd : ∀ c, o.op ≠ .defer c) (hi : ops[i]? = some o) (hw : Region.wanted o (yielded ops a.tmps) = true)
    (h : ∀ K : Act → World → Prop, (∀ a' w', (fin i = false → S w') ∧ wpTl F n P ops Q S fin rest a' w' → K a' w') → o.uponIn F n P a K (OnlyEnd Q) ((execOp a.eval o).run P w)) : wpTl F n P ops Q S fin (i :: rest) a w := by
  unfold wpTl wpOpIn
  simp only [hi, hw, if_true]
  refine ⟨fun f _ => hF f, ?_⟩
  rw [Oper.semAt_eq F.round a.eval o hd]
  exact h _ fun _ _ h => h
theorem tl_off (hF : ∀ f, F.fn f) (hi : ops[i]? = some o) (hw : Region.wanted o (yielded ops a.tmps) = false) (hS : fin i = false → S w) (h : wpTl F n P ops Q S fin rest (a.put o.dst undef) w) : wpTl F n P ops Q S fin (i :: rest) a w := by
  unfold wpTl wpOpIn
  simp only [hi, hw, Bool.false_eq_true, if_false]
  exact ⟨fun f _ => hF f, hS, h⟩
end
end Sk
