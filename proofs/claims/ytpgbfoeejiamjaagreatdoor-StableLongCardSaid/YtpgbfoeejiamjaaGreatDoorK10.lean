/- Package frame: whole, All. -/
import Derived.Test.YtpgbfoeejiamjaaGreatDoorK09
import Derived.Test.YtpgbfoeejiamjaaGreatDoorProg
import Derived.Test.YtpgbfoeejiamjaaGreatDoorK07
import Derived.Test.YtpgbfoeejiamjaaGreatDoorK04
set_option linter.all false
set_option linter.unusedVariables false
set_option linter.unusedSimpArgs false
set_option linter.unusedSectionVars false
namespace Sk
open Go Go.RowKit Go.Proofs
attribute [local go_sem] Oper.semAt_some
/-- A frame that was found: where it is, its content, and where the next one begins. -/
structure Frm where
  k : Nat
  ct : List UInt8
  nx : Nat
theorem nextP_gt {s : List UInt8} {k : Nat} {ct : List UInt8} {nx : Nat} (h : nextP s k = some (ct, nx)) : k + 8 ≤ nx ∧ nx ≤ s.length := by
  unfold nextP at h
  split at h
  · cases h
  split at h
  · cases h
  split at h
  · cases h; omega
  · cases h
def framesP (s : List UInt8) (k : Nat) : List Frm :=
  match h : nextP s k with
  | none => []
  | some (ct, nx) => ⟨k, ct, nx⟩ :: framesP s nx
  termination_by s.length - k
  decreasing_by
  have := nextP_gt h
  omega
theorem framesP_none {s : List UInt8} {k : Nat} (h : nextP s k = none) : framesP s k = [] := by
  rw [framesP]; split
  · rfl
  · rename_i h'; rw [h] at h'; cases h'
theorem framesP_some {s : List UInt8} {k : Nat} {ct : List UInt8} {nx : Nat} (h : nextP s k = some (ct, nx)) : framesP s k = ⟨k, ct, nx⟩ :: framesP s nx := by
  rw [framesP]; split
  · rename_i h'; rw [h] at h'; cases h'
  · rename_i h'; rw [h] at h'; cases h'; rfl
set_option maxRecDepth 100000 in
set_option maxHeartbeats 1000000 in
theorem whole1 {W : World} (hF : Fours W) (m l bx : Nat) {v : Value} {s : List UInt8} {X : Asn} (hX : ∀ {w : World} {L : List Asn}, Own W w (X :: L) → RdW w 1 v s.length (s.map byteV)) (J Jx : List Frm → List Asn)
    (hY : ∀ (pre : List Frm) (x : Frm) (rest : List Frm) (c : Value) (w' : World) (R : List Asn), pre ++ x :: rest = framesP s 0 → Own W w' (rowA 5 1 c x.ct.length (x.ct.map byteV) :: (J pre ++ R)) → YieldAt FW m Tryz.prog l #[ei x.nx, .agg #[ei x.k, c]] w' fun e w'' =>
      (e = .returned (.bool true) ∧ Own W w'' (J (pre ++ [x]) ++ R)) ∨ (e = .returned (.bool false) ∧ Own W w'' (Jx (pre ++ [x]) ++ R)))
    (w : World) (H : Own W w (J [] ++ [blk bx (.cells #[v] 24), X])) :
    CallsIn FW (m + 1) Tryz.prog 231 #[.func (.yield l) #[] #[], ptr bx] w fun e w' => (∃ v, e = .returned v) ∧
      (Own W w' (X :: J (framesP s 0)) ∨ ∃ pre x rest, pre ++ x :: rest = framesP s 0 ∧ Own W w' (X :: Jx (pre ++ [x]))) := by
  refine callsIn_of_wp Tryz.func231 rfl trivial ?_ rfl
  simp only [Tryz.ntmps231, List.size_toArray, List.length_cons, List.length_nil, Nat.reduceAdd, Nat.reduceSub, Array.replicate_succ, Array.replicate_zero, List.push_toArray, List.append_toArray, List.nil_append, List.cons_append]
  gi_wp2
  gi_loopw [3] (fun vk wr => ∃ (pre : List Frm) (k : Nat), vk = .int .i64 (k : Int) ∧ k ≤ s.length ∧ pre ++ framesP s k = framesP s 0 ∧ Own W wr (X :: blk bx (.cells #[v] 24) :: J pre)) (fun vk _ => s.length - intN vk)
  case atStart =>
    refine ⟨[], 0, rfl, by omega, rfl, ?_⟩
    have h := Own.front (J []) H
    simpa using Own.front (blk bx (.cells #[v] 24) :: J []) h
  case round =>
    obtain ⟨pre, k, rfl, hk, he, H1⟩ := hrel
    have hb : wr.cell? ⟨bx, 0, none⟩ = some v := H1.front2.cell 0
    have hnc := nextC hF hX H1 k hk
    rcases hn : nextP s k with _ | ⟨ct, nx⟩
    · rw [hn] at hnc
      rw [framesP_none hn, List.append_nil] at he
      gi_wp2_with fail
      refine ⟨trivial, callsIn_wide.2 (hnc.mono ?_)⟩
      rintro e w1 ⟨er, hne, rfl, H2⟩
      have hq : (er != 0) = true := by simpa using hne
      gi_wp2_with fail
      refine ⟨(fun _ h => by cases h), ?_⟩
      gi_wp2_with fail
      refine bodyPost_ret (results_none rfl _ _ _) rfl ?_
      exact ⟨⟨_, rfl⟩, .inl (by rw [← he]; exact (H2.skip _).drop2)⟩
    · rw [hn] at hnc
      rw [framesP_some hn] at he
      have hgt := nextP_gt hn
      gi_wp2_with fail
      refine ⟨trivial, callsIn_wide.2 (hnc.mono ?_)⟩
      rintro e w1 ⟨c, rfl, H2⟩
      obtain ⟨A, cp, rfl, _⟩ := H2.row_rd.form
      obtain ⟨c, hcd⟩ : ∃ c, c = Value.slice A ct.length cp := ⟨_, rfl⟩
      rw [← hcd] at H2
      have H3 := H2.alloc (.cells #[ei k, c] 247)
      have hc3 := H3.cell
      have H4 : Own W _ (rowA 5 1 c ct.length (ct.map byteV) :: (J pre ++ [blk w1.heap.size (.cells #[ei k, c] 247), X, blk bx (.cells #[v] 24)])) :=
        H3.front2.perm (.cons _ (List.perm_append_comm (l₁ := [_, _, _])))
      obtain ⟨fn, tmps, assign, body, hy, hR⟩ := hY pre ⟨k, ct, nx⟩ _ c _ _ he H4
      have HR := Lib.hid hR
      clear hR
      rw [hcd] at hc3 hy HR
      gi_wp2_with fail
      refine HR.out.mono ?_
      rintro e W' (⟨rfl, H'⟩ | ⟨rfl, H'⟩)
      · gi_wp2_with fail
        refine ⟨⟨pre ++ [⟨k, ct, nx⟩], nx, rfl, hgt.2, by rw [List.append_assoc]; exact he, ?_⟩, by simp only [intN]; omega⟩
        exact ((Own.front _ H').drop).perm (List.perm_append_comm (l₂ := [_, _]))
      · gi_wp2_with fail
        refine bodyPost_ret (results_none rfl _ _ _) rfl ?_
        exact ⟨⟨_, rfl⟩, .inr ⟨pre, _, _, he, by simpa using (((Own.front _ H').drop).perm (List.perm_append_comm (l₂ := [_, _]))).drop2⟩⟩
end Sk
/- Package frame: All. -/
namespace Sk
open Go Go.RowKit Go.Proofs
attribute [local go_sem] Oper.semAt_some
attribute [local go_sem ↓] append_hide
theorem framesP_len (s : List UInt8) : ∀ (n k : Nat), s.length - k ≤ n → k ≤ s.length → (framesP s k).length * 8 ≤ s.length - k := by
  intro n
  induction n with
  | zero =>
    intro k h hk
    have : nextP s k = none := by unfold nextP; rw [if_pos (by omega)]
    rw [framesP_none this]; simp
  | succ n ih =>
    intro k h hk
    rcases hn : nextP s k with _ | ⟨ct, nx⟩
    · rw [framesP_none hn]; simp
    · have hg := nextP_gt hn
      have := ih nx (by omega) (by omega)
      rw [framesP_some hn, List.length_cons]
      omega
def lastNx (l : List Frm) : Nat := match l.getLast? with | some x => x.nx | none => 0
theorem lastNx_snoc (l : List Frm) (x : Frm) : lastNx (l ++ [x]) = x.nx := by simp [lastNx]
/-- The cells of frames that were found. -/
def frows (xs : List (Frm × Value)) : List Value := xs.flatMap fun x => [ei x.1.k, x.2]
/-- Their contents. -/
def fsl (xs : List (Frm × Value)) : List Asn := xs.map fun x => slA 1 x.2 x.1.ct.length (x.1.ct.map byteV)
theorem frows_snoc (xs : List (Frm × Value)) (x : Frm × Value) : frows (xs ++ [x]) = frows xs ++ [ei x.1.k, x.2] := by simp [frows]
theorem fsl_snoc (xs : List (Frm × Value)) (x : Frm × Value) : fsl (xs ++ [x]) = fsl xs ++ [slA 1 x.2 x.1.ct.length (x.1.ct.map byteV)] := by simp [fsl]
theorem frameT : SlT Tryz.prog 235 247 2 32 where
  type := Tryz.underlying235
  info := info_parts1 (z := .agg #[.int .i64 0, .slice none 0 0]) (by kernel_rfl) rfl
  pos := by decide
/-- What frames were found, in two variables. -/
def foundA (g4 g5 : Nat) (pre : List Frm) : Asn := exi fun y : List (Frm × Value) × Value =>
  grp (pur (y.1.map Prod.fst = pre) :: blk g4 (.cells #[y.2] 235) :: blk g5 (.cells #[ei (lastNx pre)] 3) :: rowA 247 2 y.2 y.1.length (frows y.1) :: fsl y.1)
theorem Own.found_open {W w : World} {L : List Asn} {g4 g5 : Nat} {pre : List Frm} (H : Own W w (foundA g4 g5 pre :: L)) : ∃ xs A c, xs.map Prod.fst = pre ∧
    Own W w (blk g4 (.cells #[.slice A xs.length c] 235) :: blk g5 (.cells #[ei (lastNx pre)] 3) :: rowA 247 2 (.slice A xs.length c) xs.length (frows xs) :: (fsl xs ++ L)) := by
  obtain ⟨⟨xs, v⟩, H⟩ := Own.exi_iff.1 H
  obtain ⟨h, H⟩ := Own.pur_iff.1 (Own.grp_iff.1 H)
  have H0 : Own W w (blk g4 (.cells #[v] 235) :: blk g5 (.cells #[ei (lastNx pre)] 3) :: rowA 247 2 v xs.length (frows xs) :: (fsl xs ++ L)) := H
  obtain ⟨A, c, rfl, _⟩ := H0.front3.row_rd.form
  exact ⟨xs, A, c, h, H0⟩
theorem Own.found_shut {W w : World} {L : List Asn} {g4 g5 : Nat} {pre : List Frm} {xs : List (Frm × Value)} {v : Value} (h : xs.map Prod.fst = pre)
    (H : Own W w (blk g4 (.cells #[v] 235) :: blk g5 (.cells #[ei (lastNx pre)] 3) :: rowA 247 2 v xs.length (frows xs) :: (fsl xs ++ L))) : Own W w (foundA g4 g5 pre :: L) :=
  Own.exi_iff.2 ⟨⟨xs, v⟩, Own.grp_iff.2 (Own.pur_iff.2 ⟨h, H⟩)⟩
set_option maxHeartbeats 1000000 in
theorem wholeC (A : Option Addr) (n c : Nat) (w : World) : Calls Tryz.prog 217 #[.slice A n c] w fun e w' => e = .returned (.func (.func 231) #[] #[ptr w.heap.size]) ∧ w.alloc (.cells #[.slice A n c] 24) = w' := by
  go_enter Tryz.func217, Tryz.ntmps217
  go_wp2
  go_ret
  exact ⟨rfl, rfl⟩
def AllPost (W : World) (L : List Asn) (fs : List Frm) (e : Ending) (w : World) : Prop :=
  ∃ v xs, e = .returned (.tuple #[v, ei (lastNx fs)]) ∧ xs.map Prod.fst = fs ∧ Own W w (rowA 247 2 v xs.length (frows xs) :: (fsl xs ++ L))
set_option maxRecDepth 100000 in
set_option maxHeartbeats 1000000 in
theorem allC {W w : World} {L : List Asn} (hF : Fours W) {v : Value} {s : List UInt8} {X : Asn} (hX : ∀ {w : World} {L : List Asn}, Own W w (X :: L) → RdW w 1 v s.length (s.map byteV)) (H : Own W w (X :: L)) (hs : s.length ≤ 1099511627776) :
    Calls Tryz.prog 190 #[v] w (AllPost W (X :: L) (framesP s 0)) := by
  obtain ⟨A, c, rfl, _⟩ := (hX H).form
  refine (callsIn_wide (n := 5)).1 ?_
  refine callsIn_of_wp_marks Tryz.func190 rfl trivial ?_ rfl
  simp only [Tryz.ntmps190, List.size_toArray, List.length_cons, List.length_nil, Nat.reduceAdd, Nat.reduceSub, Array.replicate_succ, Array.replicate_zero, List.push_toArray, List.append_toArray, List.nil_append, List.cons_append]
  gi_wp2_with (refine ⟨trivial, ?_⟩; gi_at_call 217; refine callsIn_wide.2 ((wholeC _ _ _ _).mono ?_); rintro e w' ⟨rfl, rfl⟩)
  have H1 := ((H.alloc (.cells #[.slice none 0 0] 235)).alloc (.cells #[ei 0] 3)).alloc (.cells #[.slice A s.length c] 24)
  simp only [World.size_alloc] at H1
  have hlen := framesP_len s s.length 0 (by omega) (by omega)
  refine range_own (Ld := foundA w.heap.size (w.heap.size + 1) (framesP s 0) :: X :: L) (Lx := fun _ => [pur False]) H1 rfl (enters_of Tryz.func231 (by kernel_rfl) rfl) ?iter ?done ?stop
  case iter =>
    intro r l D w1 R HI
    have HJ : Own W w1 ((blk l (.loop r) :: blk D (.deferred (some [])) :: foundA w.heap.size (w.heap.size + 1) [] :: L) ++ [blk (w.heap.size + 1 + 1) (.cells #[.slice A s.length c] 24), X]) := by
      have h := Own.found_shut (xs := []) (pre := []) rfl (HI.row_nil 247 2).front6.mid5
      exact h.back3.perm (.cons _ (.cons _ (.cons _ (List.perm_append_comm (l₁ := [_, _])))))
    refine (whole1 hF 3 l (w.heap.size + 1 + 1) hX (fun pre => blk l (.loop r) :: blk D (.deferred (some [])) :: foundA w.heap.size (w.heap.size + 1) pre :: L)
      (fun _ => [pur False]) ?_ w1 HJ).mono ?_
    · intro pre x rest cv w' RR hx H'
      obtain ⟨Ac, cc, rfl, _⟩ := H'.row_rd.form
      obtain ⟨xs, A4, c4, hxs, H2⟩ := H'.row_freeze.front4.found_open
      have hpl : pre.length + 1 ≤ s.length := by
        have : (pre ++ x :: rest).length * 8 ≤ s.length - 0 := by rw [hx]; exact hlen
        simp at this; omega
      have hxl : xs.length = pre.length := by rw [← hxs]; simp
      have H3 : Own W w' (blk l (.loop r) :: blk w.heap.size (.cells #[.slice A4 xs.length c4] 235) :: blk (w.heap.size + 1) (.cells #[ei (lastNx pre)] 3) :: rowA 247 2 (.slice A4 xs.length c4) xs.length (frows xs) ::
          (fsl xs ++ (slA 1 (.slice Ac x.ct.length cc) x.ct.length (x.ct.map byteV) :: blk D (.deferred (some [])) :: (L ++ RR)))) := by
        have h := Own.front (blk w.heap.size (.cells #[.slice A4 xs.length c4] 235) :: blk (w.heap.size + 1) (.cells #[ei (lastNx pre)] 3) :: rowA 247 2 (.slice A4 xs.length c4) xs.length (frows xs) :: (fsl xs ++ [slA 1 (.slice Ac x.ct.length cc) x.ct.length (x.ct.map byteV)])) (A := blk l (.loop r)) (L := blk D (.deferred (some [])) :: (L ++ RR)) (by simpa using H2)
        simpa using h
      have Y : YieldAt FW 3 Tryz.prog l #[ei x.nx, .agg #[ei x.k, .slice Ac x.ct.length cc]] w' (yielded' W l r (foundA w.heap.size (w.heap.size + 1) (pre ++ [x]) :: blk D (.deferred (some [])) :: (L ++ RR)) (fun _ => [pur False])) := by
        refine round_is R H3 rfl ?_
        gi_wp2
        refine ⟨_, (H3.alloc (.cells #[ei x.k, .slice Ac x.ct.length cc] 247)).front2, fun w₂ H5 => ?_⟩
        have ha := H5.front2.cell
        have hb := H5.front3.cell
        obtain ⟨A', c', w3, hap, H7⟩ := ((H5.skip (.cells #[ei x.k, .slice Ac x.ct.length cc] 247)).front5).append_eq (m := 1) frameT 235 (rd_new w₂ #[ei x.k, .slice Ac x.ct.length cc] 247 rfl (by decide)) (by simp [Value.oneCell']) (by unfold maxLen; omega) (by omega)
        have H8 := H7.front4
        have hc8 := H8.cell
        have hf8 := H8.free
        have H9 := (H8.set 0 (.slice A' (xs.length + 1) c')).front5
        have hc9 := H9.cell
        have hf9 := H9.free
        have H10 := H9.set 0 (ei x.nx)
        have HL := Lib.hid hxl
        have HS := Lib.hid hxs
        clear hxl hxs
        gi_wp2
        have h := H10.front2.drop5
        have hp := List.perm_middle (a := blk l (.loop { r with state := .busy })) (l₁ := fsl xs ++ [slA 1 (.slice Ac x.ct.length cc) x.ct.length (x.ct.map byteV)]) (l₂ := blk D (.deferred (some [])) :: (L ++ RR))
        have h2 := h.perm (.cons _ (.cons _ (.cons _ ((by simpa using hp.symm : List.Perm _ ((fsl xs ++ [slA 1 (.slice Ac x.ct.length cc) x.ct.length (x.ct.map byteV)]) ++ blk l (.loop { r with state := .busy }) :: blk D (.deferred (some [])) :: (L ++ RR)))))))
        refine Own.front2 (Own.found_shut (xs := xs ++ [(x, .slice Ac x.ct.length cc)]) (v := .slice A' (xs.length + 1) c') (by rw [List.map_append, HS.out]; rfl) ?_)
        rw [lastNx_snoc, frows_snoc, fsl_snoc, List.length_append]
        exact h2
      exact Y.mono fun e w'' h => by
        rcases h with ⟨rfl, h⟩ | ⟨rfl, c, h⟩
        · exact .inl ⟨rfl, h.mid2⟩
        · exact ((Own.pur_iff.1 h.front2).1).elim
    · rintro e w2 ⟨hv, h⟩
      refine ⟨hv, ?_⟩
      rcases h with h | ⟨_, _, _, _, h⟩
      · exact .inl h.back4
      · exact ((Own.pur_iff.1 h.front2).1).elim
  case done =>
    intro D w2 H2
    obtain ⟨xs, A4, c4, hxs, H3⟩ := H2.front2.found_open
    have hc4 := H3.cell
    have hc5 := H3.front2.cell
    gi_wp2_with fail
    refine region_fl [0, 1, 2, 3] [] [] (fun w' => w'.cell? ⟨w.heap.size, 0, none⟩ = some (.slice A4 xs.length c4) ∧ w'.cell? ⟨w.heap.size + 1, 0, none⟩ = some (ei (lastNx (framesP s 0)))) (fun _ => trivial) (by kernel_rfl) (by kernel_rfl) ?hS ?_
    case hS => go_simp
    apply hd_on (i := 0) rfl rfl
    · (intro w' hS; go_simp; try rfl)
    simp only [List.getElem_toArray, List.getElem_cons_succ, List.getElem_cons_zero, Act.put, List.setIfInBounds_toArray, List.set_cons_succ, List.set_cons_zero]
    apply hd_on (i := 1) rfl rfl
    · (intro w' hS; go_simp; try rfl)
    simp only [List.getElem_toArray, List.getElem_cons_succ, List.getElem_cons_zero, Act.put, List.setIfInBounds_toArray, List.set_cons_succ, List.set_cons_zero]
    apply hd_on (i := 2) rfl rfl
    · (intro w' hS; go_simp; try rfl)
    simp only [List.getElem_toArray, List.getElem_cons_succ, List.getElem_cons_zero, Act.put, List.setIfInBounds_toArray, List.set_cons_succ, List.set_cons_zero]
    apply hd_on (i := 3) rfl rfl
    · (intro w' hS; go_simp; try rfl)
    simp only [List.getElem_toArray, List.getElem_cons_succ, List.getElem_cons_zero, Act.put, List.setIfInBounds_toArray, List.set_cons_succ, List.set_cons_zero]
    refine hd_nil ?_
    refine tl_nil ?_
    gi_wp2
    refine ⟨by simp, .inl ⟨_, _, rfl, run_takeDeferred H2.drew.has, ?_⟩⟩
    refine ⟨.tuple #[.slice A4 xs.length c4, ei (lastNx (framesP s 0))], by simp [results, Tryz.results190, go_sem], ?_⟩
    have H5 := ((Own.front (blk w.heap.size (.cells #[.slice A4 xs.length c4] 235) :: blk (w.heap.size + 1) (.cells #[ei (lastNx (framesP s 0))] 3) :: rowA 247 2 (.slice A4 xs.length c4) xs.length (frows xs) :: fsl xs) H3).drew.putObj (.deferred none)).drop.drop.drop
    exact ⟨_, xs, rfl, hxs, H5⟩
  case stop =>
    intro D c w2 H2
    exact ((Own.pur_iff.1 H2.front2).1).elim
end Sk
/- Package disk. -/
namespace Sk
open Go Go.RowKit Go.Proofs
attribute [local go_sem ↓] append_hide
/-- Bytes that may be appended to: a row of their own, or a slice that is full. -/
def bytB (b : Bool) (v : Value) (xs : List UInt8) : Asn := match b with
  | true => rowA 5 1 v xs.length (xs.map byteV)
  | false => grp [slA 1 v xs.length (xs.map byteV), pur (∃ A, v = .slice A xs.length xs.length)]
def bytA (v : Value) (xs : List UInt8) : Asn := exi fun b => bytB b v xs
section
variable {W w : World} {L : List Asn} {v x : Value} {xs ys : List UInt8} {m : Nat}
theorem Own.byt_row (H : Own W w (rowA 5 1 v xs.length (xs.map byteV) :: L)) : Own W w (bytA v xs :: L) := Own.exi_iff.2 ⟨true, H⟩
theorem Own.byt_full {A : Option Addr} (H : Own W w (slA 1 (.slice A xs.length xs.length) xs.length (xs.map byteV) :: L)) : Own W w (bytA (.slice A xs.length xs.length) xs :: L) :=
  Own.exi_iff.2 ⟨false, Own.grp_iff.2 (Own.front2 (Own.pur_iff.2 ⟨⟨A, rfl⟩, H⟩))⟩
theorem Own.byt_cases (H : Own W w (bytA v xs :: L)) : Own W w (rowA 5 1 v xs.length (xs.map byteV) :: L) ∨ (∃ A, v = .slice A xs.length xs.length ∧ Own W w (slA 1 v xs.length (xs.map byteV) :: L)) := by
  obtain ⟨b, H⟩ := Own.exi_iff.1 H
  cases b
  · have H' := Own.grp_iff.1 H
    obtain ⟨⟨A, hA⟩, H2⟩ := Own.pur_iff.1 (Own.front2 H')
    exact .inr ⟨A, hA, H2⟩
  · exact .inl H
theorem Own.byt_rd (H : Own W w (bytA v xs :: L)) : RdW w 1 v xs.length (xs.map byteV) := by
  rcases H.byt_cases with H | ⟨A, _, H⟩
  · exact H.row_rd
  · exact H.sl_rd
theorem Own.byt_freeze (H : Own W w (bytA v xs :: L)) : Own W w (slA 1 v xs.length (xs.map byteV) :: L) := by
  rcases H.byt_cases with H | ⟨A, _, H⟩
  · exact H.row_freeze
  · exact H
theorem Own.byt_append (H : Own W w (bytA v xs :: L)) (ty : TypeId) (hr : RdW w 1 x ys.length (ys.map byteV)) (hb : xs.length + ys.length ≤ 140737488355328) :
    ∃ A c w', (appendSem #[24, 24] ty #[v, x]).run Tryz.prog w = .ok (.slice A (xs.length + ys.length) c) w' ∧ Own W w' (bytA (.slice A (xs.length + ys.length) c) (xs ++ ys) :: L) := by
  have fin : ∀ {v : Value}, Own W w (rowA 5 1 v xs.length (xs.map byteV) :: L) → ∃ A c w', (appendSem #[24, 24] ty #[v, x]).run Tryz.prog w = .ok (.slice A (xs.length + ys.length) c) w' ∧ Own W w' (bytA (.slice A (xs.length + ys.length) c) (xs ++ ys) :: L) := by
    intro v H
    obtain ⟨A, c, w', h1, h2⟩ := H.append_eq (m := ys.length) byteT ty hr (bytes_one ys) (by unfold maxLen; omega) (by omega)
    refine ⟨A, c, w', h1, Own.byt_row ?_⟩
    rw [List.length_append, List.map_append]
    exact h2
  rcases H.byt_cases with H | ⟨A, rfl, H⟩
  · exact fin H
  · rcases A with _ | b
    · have hx : xs = [] := by
        obtain ⟨_, A', c', e, _, _, h⟩ := H.sl_rd
        cases e
        rcases Nat.eq_zero_or_pos xs.length with h0 | h0
        · exact List.eq_nil_of_length_eq_zero h0
        · obtain ⟨_, h, _⟩ := h h0; cases h
      subst hx
      exact fin (H.drop.row_nil _ _)
    · obtain ⟨i, z, hi, hz, hs, hby, hzs⟩ := byteT.info
      have hrd := H.sl_rd
      obtain ⟨hl, A', c', e, _, _, hA⟩ := hrd
      cases e
      obtain ⟨hl2, A2, c2, rfl, hc2, hm2, hA2⟩ := hr
      rcases Nat.eq_zero_or_pos ys.length with h0 | h0
      · have hy : ys = [] := List.eq_nil_of_length_eq_zero h0
        subst hy
        refine ⟨some b, xs.length, w, ?_, by simpa using Own.byt_full H⟩
        have hf := fun a => run_firstCells_some (P := Tryz.prog) w i.size 0 a 0 c2 [] (by simp) (by simp)
        rcases A2 with _ | a
        · simp [appendSem, Builtin.append_, run_underlying byteT.type, Go.sizeOf, typeInfo, hi, Builtin.lenOf, Builtin.firstCells, storeCells]
        · simp [appendSem, Builtin.append_, run_underlying byteT.type, Go.sizeOf, typeInfo, hi, Builtin.lenOf, storeCells, hf]
      · obtain ⟨ad, rfl, hel⟩ := hA2 h0
        have holds : ∀ j v, (xs.map byteV)[j]? = some v → w.cell? (b.add j) = some v := by
          intro j v hj
          have : 0 < xs.length := by
            have := (List.getElem?_eq_some_iff.1 hj).1
            simp at this; omega
          obtain ⟨b', e, h⟩ := hA this
          cases e
          exact h j v hj
        have hrun := run_append_grow (P := Tryz.prog) w 24 ty 5 i z byteT.type hi hz b xs.length xs.length (xs.map byteV) (by rw [hs]; simp) holds ad ys.length c2 (ys.map byteV) (by rw [hs]; simp) hel (by omega) (by omega) (by rw [hby]; exact growslice_fits (by omega) (by omega))
        have hge := grownCap_ge w (xs.length + ys.length) xs.length 5
        have hcm : grownCap w (xs.length + ys.length) xs.length 5 ≤ maxLen := grownCap_le_maxLen w _ _ _ (by unfold maxLen; omega)
        refine ⟨_, _, _, hrun, Own.byt_row ?_⟩
        have H1 := (H.drop.drew.alloc (.cells ((xs.map byteV).toArray ++ (ys.map byteV).toArray ++ Builtin.zeroCells z.cells (grownCap w (xs.length + ys.length) xs.length 5 - (xs.length + ys.length))) 5)).row_of_blk (n := xs.length + ys.length) (cap := grownCap w (xs.length + ys.length) xs.length 5) (size := 1) (xs := (xs ++ ys).map byteV) hge hcm (by
            simp only [Array.size_append, size_zeroCells, hzs, List.size_toArray, List.length_map]
            omega) (by
            simp only [Array.toList_append, Nat.mul_one]
            rw [← List.map_append, List.take_left' (by simp)])
        rw [List.length_append]
        exact H1
end
/-- What a disk holds. -/
structure Dsk where
  b : List UInt8
  safe : Nat
  st : List UInt8
  has : Bool
def dskB (d lg : Nat) (vb vs : Value) (x : Dsk) : List Asn :=
  [blk d (.cells #[ptr lg, vs, .bool x.has] 126), blk lg (.cells #[vb, ei x.safe] 124), bytA vb x.b, slA 1 vs x.st.length (x.st.map byteV)]
def dskA (d : Nat) (x : Dsk) : Asn := exi fun y : Nat × Value × Value => grp (dskB d y.1 y.2.1 y.2.2 x)
section
variable {W w : World} {L : List Asn} {d : Nat} {x : Dsk}
theorem Own.dsk_open (H : Own W w (dskA d x :: L)) : ∃ lg A n c A2 n2 c2, Own W w (blk d (.cells #[ptr lg, .slice A2 n2 c2, .bool x.has] 126) :: blk lg (.cells #[.slice A n c, ei x.safe] 124) :: bytA (.slice A n c) x.b :: slA 1 (.slice A2 n2 c2) x.st.length (x.st.map byteV) :: L) := by
  obtain ⟨⟨lg, vb, vs⟩, H⟩ := Own.exi_iff.1 H
  have H0 : Own W w (blk d (.cells #[ptr lg, vs, .bool x.has] 126) :: blk lg (.cells #[vb, ei x.safe] 124) :: bytA vb x.b :: slA 1 vs x.st.length (x.st.map byteV) :: L) := Own.grp_iff.1 H
  obtain ⟨A, c, rfl, _⟩ := H0.front3.byt_rd.form
  obtain ⟨A2, c2, rfl, _⟩ := H0.front4.sl_rd.form
  exact ⟨lg, A, _, c, A2, _, c2, H0⟩
theorem Own.dsk_shut {lg : Nat} {vb vs : Value} (H : Own W w (blk d (.cells #[ptr lg, vs, .bool x.has] 126) :: blk lg (.cells #[vb, ei x.safe] 124) :: bytA vb x.b :: slA 1 vs x.st.length (x.st.map byteV) :: L)) : Own W w (dskA d x :: L) :=
  Own.exi_iff.2 ⟨⟨lg, vb, vs⟩, Own.grp_iff.2 H⟩
theorem Own.sl_nil (H : Own W w L) : Own W w (slA 1 (.slice none 0 0) 0 [] :: L) := (H.row_nil 5 1).row_freeze
end
set_option maxHeartbeats 1000000 in
theorem diskNew {W w : World} {L : List Asn} (H : Own W w L) : Calls Tryz.prog 20 #[] w fun e w' => ∃ d, e = .returned (ptr d) ∧ Own W w' (dskA d ⟨[], 0, [], false⟩ :: L) := by
  have H1 := (H.alloc (.cells #[.slice none 0 0, ei 0] 124)).alloc (.cells #[ptr w.heap.size, .slice none 0 0, .bool false] 126)
  rw [World.size_alloc] at H1
  go_enter Tryz.func20, Tryz.ntmps20
  go_wp2
  go_ret
  refine ⟨_, rfl, ?_⟩
  have H2 := ((H1.sl_nil.row_nil 5 1).byt_row (xs := []))
  exact Own.dsk_shut (x := ⟨[], 0, [], false⟩) (lg := w.heap.size) (vb := .slice none 0 0) (vs := .slice none 0 0) H2.front3.mid3
/-- Append: the error, and the disk. -/
def Dsk.append (x : Dsk) (s : List UInt8) : Int × Dsk :=
  if (makeP s).1 = 0 then (if x.b.length + (makeP s).2.length ≤ 16777216 then (0, { x with b := x.b ++ (makeP s).2 }) else (4, x)) else ((makeP s).1, x)
theorem append_ok {x : Dsk} {s r : List UInt8} (h : makeP s = (0, r)) (h2 : x.b.length + r.length ≤ 16777216) : x.append s = (0, { x with b := x.b ++ r }) := by unfold Dsk.append; rw [h, if_pos rfl, if_pos h2]
theorem append_full {x : Dsk} {s r : List UInt8} (h : makeP s = (0, r)) (h2 : ¬ x.b.length + r.length ≤ 16777216) : x.append s = (4, x) := by unfold Dsk.append; rw [h, if_pos rfl, if_neg h2]
theorem append_err {x : Dsk} {s r : List UInt8} {er : Int} (h : makeP s = (er, r)) (h2 : er ≠ 0) : x.append s = (er, x) := by unfold Dsk.append; rw [h, if_neg h2]
set_option maxRecDepth 100000 in
set_option maxHeartbeats 1000000 in
theorem diskAppend {W w : World} {L : List Asn} (hF : Fours W) {d : Nat} {x : Dsk} {v : Value} {s : List UInt8} (H : Own W w (dskA d x :: slA 1 v s.length (s.map byteV) :: L)) (hx : x.b.length ≤ 16777216) :
    Calls Tryz.prog 47 #[ptr d, v] w fun e w' => e = .returned (ei (x.append s).1) ∧ Own W w' (dskA d (x.append s).2 :: slA 1 v s.length (s.map byteV) :: L) := by
  obtain ⟨lg, A, n, c, A2, n2, c2, H0⟩ := H.dsk_open
  have hn : n = x.b.length := by
    obtain ⟨_, A', c', e, _⟩ := H0.front3.byt_rd
    cases e; rfl
  subst hn
  obtain ⟨A3, c3, rfl, _⟩ := H0.front5.sl_rd.form
  have hcd := H0.cell
  have hcl := H0.front2.cell
  have hfl := H0.front2.free
  have hmk := makeC hF H0.front5.sl_dup
  have hml : (makeP s).2.length ≤ 70000 := by
    by_cases h : s.length ≤ 65536
    · rw [makeP_yes h]; simp [four]; omega
    · rw [makeP_no h]; simp
  obtain ⟨er, r, hmp⟩ : ∃ er r, makeP s = (er, r) := ⟨_, _, rfl⟩
  rw [hmp] at hmk hml
  simp only at hml
  by_cases he : er = 0
  · subst he
    by_cases hl : x.b.length + r.length ≤ 16777216
    · rw [append_ok hmp hl]
      have q : ¬ 16777216 < (x.b.length : Int) + (r.length : Int) := by omega
      have HM := Lib.hid hmp
      clear hmp
      go_enter Tryz.func47, Tryz.ntmps47
      go_wp2_with (go_at_call 82; go_in)
      refine hmk.mono ?_
      rintro e w1 ⟨vr, rfl, H1⟩
      simp only at H1
      obtain ⟨Ar, cr, rfl, _⟩ := H1.row_rd.form
      have H1b := H1.front4
      have hc1 := H1b.cell
      have hf1 := H1b.free
      obtain ⟨Ac, cc, w2, hap, H2⟩ := H1b.front5.byt_append 24 H1.row_rd (by omega)
      have H3 := H2.front2
      have hc3 := H3.cell
      have hf3 := H3.free
      have H4 := H3.set 0 (.slice Ac (x.b.length + r.length) cc)
      simp only [List.setIfInBounds_toArray, List.set_cons_succ, List.set_cons_zero] at H4
      go_wp2_with fail
      go_ret
      refine ⟨rfl, ?_⟩
      have H5 : Own W (w2.setCell ⟨lg, 0, none⟩ (.slice Ac (x.b.length + r.length) cc)) (blk d (.cells #[ptr lg, .slice A2 n2 c2, .bool x.has] 126) :: blk lg (.cells #[.slice Ac (x.b.length + r.length) cc, ei x.safe] 124) :: bytA (.slice Ac (x.b.length + r.length) cc) (x.b ++ r) :: slA 1 (.slice A2 n2 c2) x.st.length (x.st.map byteV) :: slA 1 (.slice A3 s.length c3) s.length (s.map byteV) :: L) := by
        exact H4.drop3.front4.perm (.cons _ (.cons _ (.cons _ (.swap _ _ _))))
      exact Own.dsk_shut (x := { x with b := x.b ++ r }) H5
    · rw [append_full hmp hl]
      have q : 16777216 < (x.b.length : Int) + (r.length : Int) := by omega
      have HM := Lib.hid hmp
      clear hmp
      go_enter Tryz.func47, Tryz.ntmps47
      go_wp2_with (go_at_call 82; go_in)
      refine hmk.mono ?_
      rintro e w1 ⟨vr, rfl, H1⟩
      simp only at H1
      obtain ⟨Ar, cr, rfl, _⟩ := H1.row_rd.form
      have H1b := H1.front4
      have hc1 := H1b.cell
      have hf1 := H1b.free
      go_wp2_with fail
      go_ret
      refine ⟨rfl, ?_⟩
      exact Own.dsk_shut (x := x) (lg := lg) (vb := .slice A x.b.length c) (vs := .slice A2 n2 c2) H1.drop.back5
  · rw [append_err hmp he]
    have hq : (er != 0) = true := by simpa using he
    clear hmp
    go_enter Tryz.func47, Tryz.ntmps47
    go_wp2_with (go_at_call 82; go_in)
    refine hmk.mono ?_
    rintro e w1 ⟨vr, rfl, H1⟩
    simp only at H1
    go_wp2_with fail
    go_ret
    refine ⟨rfl, ?_⟩
    exact Own.dsk_shut (x := x) (lg := lg) (vb := .slice A x.b.length c) (vs := .slice A2 n2 c2) H1.drop.back5
end Sk
/- Package disk: the other methods. -/
namespace Sk
open Go Go.RowKit Go.Proofs
set_option maxHeartbeats 1000000 in
theorem logSync {w : World} {lg n c : Nat} {A : Option Addr} {k : Value} (hc : ∀ i, w.cell? ⟨lg, i, none⟩ = #[.slice A n c, k][i]?) (hf : ∀ i, w.frozen? ⟨lg, i, none⟩ = false) :
    Calls Tryz.prog 165 #[ptr lg] w fun e w' => e = .returned (.tuple #[]) ∧ w.setCell ⟨lg, 1, none⟩ (ei n) = w' := by
  go_enter Tryz.func165, Tryz.ntmps165
  go_wp2
  refine bodyPost_end (results_none rfl _ _ _) rfl ?_
  exact ⟨rfl, rfl⟩
set_option maxRecDepth 100000 in
set_option maxHeartbeats 1000000 in
theorem diskSync {W w : World} {L : List Asn} {d : Nat} {x : Dsk} (H : Own W w (dskA d x :: L)) :
    Calls Tryz.prog 85 #[ptr d] w fun e w' => e = .returned (.tuple #[]) ∧ Own W w' (dskA d { x with safe := x.b.length } :: L) := by
  obtain ⟨lg, A, n, c, A2, n2, c2, H0⟩ := H.dsk_open
  have hn : n = x.b.length := by
    obtain ⟨_, A', c', e, _⟩ := H0.front3.byt_rd
    cases e; rfl
  subst hn
  have hn2 : n2 = x.st.length := by
    obtain ⟨_, A', c', e, _⟩ := H0.front4.sl_rd
    cases e; rfl
  subst hn2
  have hcd := H0.cell
  have hfd := H0.free
  have hcl := H0.front2.cell
  have hfl := H0.front2.free
  have H1 := (H0.front2.set 1 (ei x.b.length)).front2
  go_enter Tryz.func85, Tryz.ntmps85
  go_wp2_with (first | (go_at_call 82; go_in) | (go_at_call 165; refine (logSync hcl hfl).mono ?_; rintro e w1 ⟨rfl, rfl⟩))
  refine bodyPost_end (results_none rfl _ _ _) rfl ?_
  exact ⟨rfl, Own.dsk_shut (x := { x with safe := x.b.length }) H1⟩
set_option maxRecDepth 100000 in
set_option maxHeartbeats 1000000 in
theorem diskLen {W w : World} {L : List Asn} {d : Nat} {x : Dsk} (H : Own W w (dskA d x :: L)) :
    Calls Tryz.prog 30 #[ptr d] w fun e w' => e = .returned (ei x.b.length) ∧ w = w' := by
  obtain ⟨lg, A, n, c, A2, n2, c2, H0⟩ := H.dsk_open
  have hn : n = x.b.length := by
    obtain ⟨_, A', c', e, _⟩ := H0.front3.byt_rd
    cases e; rfl
  subst hn
  have hn2 : n2 = x.st.length := by
    obtain ⟨_, A', c', e, _⟩ := H0.front4.sl_rd
    cases e; rfl
  subst hn2
  have hcd := H0.cell
  have hfd := H0.free
  have hcl := H0.front2.cell
  have hfl := H0.front2.free
  go_enter Tryz.func30, Tryz.ntmps30
  go_wp2_with (first | (go_at_call 82; go_in) | (go_at_call 100; go_in))
  go_ret
  exact ⟨rfl, rfl⟩
set_option maxRecDepth 100000 in
set_option maxHeartbeats 1000000 in
theorem diskSafe {W w : World} {L : List Asn} {d : Nat} {x : Dsk} (H : Own W w (dskA d x :: L)) :
    Calls Tryz.prog 26 #[ptr d] w fun e w' => e = .returned (ei x.safe) ∧ w = w' := by
  obtain ⟨lg, A, n, c, A2, n2, c2, H0⟩ := H.dsk_open
  have hn : n = x.b.length := by
    obtain ⟨_, A', c', e, _⟩ := H0.front3.byt_rd
    cases e; rfl
  subst hn
  have hn2 : n2 = x.st.length := by
    obtain ⟨_, A', c', e, _⟩ := H0.front4.sl_rd
    cases e; rfl
  subst hn2
  have hcd := H0.cell
  have hfd := H0.free
  have hcl := H0.front2.cell
  have hfl := H0.front2.free
  go_enter Tryz.func26, Tryz.ntmps26
  go_wp2_with (first | (go_at_call 82; go_in) | (go_at_call 87; go_in))
  go_ret
  exact ⟨rfl, rfl⟩
def SnapPost (W : World) (L : List Asn) (d : Nat) (x : Dsk) (e : Ending) (w : World) : Prop :=
  ∃ v, e = .returned (.tuple #[v, .bool x.has]) ∧ Own W w (slA 1 v (if x.has = true then x.st else []).length ((if x.has = true then x.st else []).map byteV) :: dskA d x :: L)
set_option maxRecDepth 100000 in
set_option maxHeartbeats 1000000 in
theorem diskSnapshot {W w : World} {L : List Asn} {d : Nat} {x : Dsk} (H : Own W w (dskA d x :: L)) (hx : x.st.length ≤ 140737488355328) :
    Calls Tryz.prog 52 #[ptr d] w (SnapPost W L d x) := by
  obtain ⟨lg, A, n, c, A2, n2, c2, H0⟩ := H.dsk_open
  have hn : n = x.b.length := by
    obtain ⟨_, A', c', e, _⟩ := H0.front3.byt_rd
    cases e; rfl
  subst hn
  have hn2 : n2 = x.st.length := by
    obtain ⟨_, A', c', e, _⟩ := H0.front4.sl_rd
    cases e; rfl
  subst hn2
  have hcd := H0.cell
  have hfd := H0.free
  have hcl := H0.front2.cell
  have hfl := H0.front2.free
  have hcln := sclone H H0.front4.sl_rd hx
  rcases hh : x.has with _ | _
  · rw [hh] at hcd
    have HH := Lib.hid hh
    clear hh
    go_enter Tryz.func52, Tryz.ntmps52
    go_wp2_with (first | (go_at_call 82; go_in))
    refine bodyPost_ret (v := .tuple #[.slice none 0 0, .bool false]) (by simp [results, Tryz.results52, go_sem]) rfl ?_
    refine ⟨_, by rw [HH.out], ?_⟩
    rw [HH.out]
    exact H.sl_nil
  · rw [hh] at hcd
    have HH := Lib.hid hh
    clear hh
    go_enter Tryz.func52, Tryz.ntmps52
    go_wp2_with (first | (go_at_call 82; go_in) | (go_at_call 83; refine hcln.mono ?_; rintro e w1 ⟨A', c', rfl, H1⟩))
    refine bodyPost_ret (v := .tuple #[.slice A' x.st.length c', .bool true]) (by simp [results, Tryz.results52, go_sem]) rfl ?_
    refine ⟨_, by rw [HH.out], ?_⟩
    rw [HH.out]
    exact H1.row_freeze
/-- Save: the error, and the disk. -/
def Dsk.save (x : Dsk) (s : List UInt8) : Int × Dsk := if s.length ≤ 65536 then (0, ⟨[], 0, s, true⟩) else (11, x)
set_option maxRecDepth 100000 in
set_option maxHeartbeats 1000000 in
theorem diskSave {W w : World} {L : List Asn} {d : Nat} {x : Dsk} {v : Value} {s : List UInt8} (H : Own W w (dskA d x :: L)) (hr : RdW w 1 v s.length (s.map byteV)) :
    Calls Tryz.prog 22 #[ptr d, v] w fun e w' => e = .returned (ei (x.save s).1) ∧ Own W w' (dskA d (x.save s).2 :: L) := by
  obtain ⟨lg, A, n, c, A2, n2, c2, H0⟩ := H.dsk_open
  have hn : n = x.b.length := by
    obtain ⟨_, A', c', e, _⟩ := H0.front3.byt_rd
    cases e; rfl
  subst hn
  have hn2 : n2 = x.st.length := by
    obtain ⟨_, A', c', e, _⟩ := H0.front4.sl_rd
    cases e; rfl
  subst hn2
  have hcd := H0.cell
  have hfd := H0.free
  have hcl := H0.front2.cell
  have hfl := H0.front2.free
  have hr0 := Lib.hid hr
  obtain ⟨A3, c3, rfl, _⟩ := hr.form
  by_cases hl : s.length ≤ 65536
  · have he : x.save s = (0, ⟨[], 0, s, true⟩) := if_pos hl
    rw [he]
    have q : ¬ 65536 < (s.length : Int) := by omega
    go_enter Tryz.func22, Tryz.ntmps22
    go_wp2_with (first | (go_at_call 82; go_in))
    refine (sclone H0 hr0.out (by omega)).mono ?_
    rintro e w1 ⟨A', c', rfl, H1⟩
    have hcd1 := H1.front2.cell
    have hfd1 := H1.front2.free
    have H2 := ((H1.front2.set 1 (.slice A' s.length c')).set 2 (.bool true)).front3
    have hcl2 := H2.cell
    have hfl2 := H2.free
    have H3 := (H2.set 0 (.slice none 0 0)).set 1 (ei 0)
    simp only [List.setIfInBounds_toArray, List.set_cons_succ, List.set_cons_zero] at H3
    go_wp2_with fail
    go_ret
    refine ⟨rfl, ?_⟩
    have H4 := ((H3.front3.row_freeze.drop4.drop4.row_nil 5 1).byt_row (xs := [])).front4.mid3
    exact Own.dsk_shut (x := ⟨[], 0, s, true⟩) H4
  · have he : x.save s = (11, x) := if_neg hl
    rw [he]
    have q : 65536 < (s.length : Int) := by omega
    go_enter Tryz.func22, Tryz.ntmps22
    go_wp2_with (first | (go_at_call 82; go_in))
    go_ret
    exact ⟨rfl, H⟩
/-- A disk that is open in a world. -/
def CpS (W : World) (L : List Asn) (d lg : Nat) (A A2 : Option Addr) (c c2 : Nat) (x : Dsk) (w : World) : Prop :=
  Own W w (blk d (.cells #[ptr lg, .slice A2 x.st.length c2, .bool x.has] 126) :: blk lg (.cells #[.slice A x.b.length c, ei x.safe] 124) :: bytA (.slice A x.b.length c) x.b :: slA 1 (.slice A2 x.st.length c2) x.st.length (x.st.map byteV) :: L)
section
variable {W : World} {L : List Asn} {d lg c c2 : Nat} {A A2 : Option Addr} {x : Dsk} {w : World}
theorem CpS.alloc (h : CpS W L d lg A A2 c c2 x w) (o : Obj) : CpS W L d lg A A2 c c2 x (w.alloc o) := Own.skip h o
theorem CpS.drew (h : CpS W L d lg A A2 c c2 x w) : CpS W L d lg A A2 c c2 x w.drew := Own.drew h
theorem CpS.alloc' {p : Prop} (h : CpS W L d lg A A2 c c2 x w ∧ p) (o : Obj) : CpS W L d lg A A2 c c2 x (w.alloc o) := h.1.alloc o
theorem CpS.cd (h : CpS W L d lg A A2 c c2 x w) : ∀ i, w.cell? ⟨d, i, none⟩ = #[ptr lg, .slice A2 x.st.length c2, .bool x.has][i]? := Own.cell h
theorem CpS.cl (h : CpS W L d lg A A2 c c2 x w) : ∀ i, w.cell? ⟨lg, i, none⟩ = #[.slice A x.b.length c, ei x.safe][i]? := (Own.front2 h).cell
theorem CpS.all (h : CpS W L d lg A A2 c c2 x w) : CpS W L d lg A A2 c c2 x w ∧ (∀ i, w.cell? ⟨d, i, none⟩ = #[ptr lg, .slice A2 x.st.length c2, .bool x.has][i]?) ∧ (∀ i, w.cell? ⟨lg, i, none⟩ = #[.slice A x.b.length c, ei x.safe][i]?) := ⟨h, h.cd, h.cl⟩
theorem CpS.clone1 {p : Prop} (h : CpS W L d lg A A2 c c2 x w ∧ p) (hx : x.b.length ≤ 16777216) : Calls Tryz.prog 83 #[.slice A x.b.length c] w fun e w' => (∃ A' c', e = .returned (.slice A' x.b.length c')) ∧ CpS W L d lg A A2 c c2 x w' :=
  (sclone h.1 (Own.front3 h.1).byt_rd (by omega)).mono fun _ _ ⟨A', c', h1, h2⟩ => ⟨⟨A', c', h1⟩, h2.drop⟩
theorem CpS.clone2 {p : Prop} (h : CpS W L d lg A A2 c c2 x w ∧ p) (hx : x.st.length ≤ 16777216) : Calls Tryz.prog 83 #[.slice A2 x.st.length c2] w fun e w' => (∃ A' c', e = .returned (.slice A' x.st.length c')) ∧ CpS W L d lg A A2 c c2 x w' :=
  (sclone h.1 (Own.front4 h.1).sl_rd (by omega)).mono fun _ _ ⟨A', c', h1, h2⟩ => ⟨⟨A', c', h1⟩, h2.drop⟩
end
set_option maxHeartbeats 1000000 in
theorem ownC {w : World} {d lg : Nat} {a b : Value} (hc : ∀ i, w.cell? ⟨d, i, none⟩ = #[ptr lg, a, b][i]?) :
    Calls Tryz.prog 82 #[ptr d] w fun e w' => e = .returned (ptr lg) ∧ w = w' := by
  go_enter Tryz.func82, Tryz.ntmps82
  go_wp2
  go_ret
  exact ⟨rfl, rfl⟩
set_option maxRecDepth 100000 in
set_option maxHeartbeats 1000000 in
theorem diskCopy {W w : World} {L : List Asn} {d : Nat} {x : Dsk} (H : Own W w (dskA d x :: L)) (hx : x.b.length ≤ 16777216) (hx2 : x.st.length ≤ 16777216) :
    Calls Tryz.prog 56 #[ptr d] w fun e w' => ∃ d', e = .returned (ptr d') ∧ Own W w' (dskA d x :: L) := by
  obtain ⟨lg, A, n, c, A2, n2, c2, H0⟩ := H.dsk_open
  have hn : n = x.b.length := by
    obtain ⟨_, A', c', e, _⟩ := H0.front3.byt_rd
    cases e; rfl
  subst hn
  have hn2 : n2 = x.st.length := by
    obtain ⟨_, A', c', e, _⟩ := H0.front4.sl_rd
    cases e; rfl
  subst hn2
  have hcd := H0.cell
  have hfd := H0.free
  have hcl := H0.front2.cell
  have hfl := H0.front2.free
  have HS : CpS W L d lg A A2 c c2 x w := H0
  clear H H0
  go_enter Tryz.func56, Tryz.ntmps56
  go_wp2_with (go_at_call 82; refine (ownC hcd).mono ?_; rintro e w1 ⟨rfl, rfl⟩)
  refine (wpIn_wide (n := 0)).1 ?_
  refine region_flT [0, 1, 2, 3, 5, 6, 7, 8, 11, 12, 13, 14, 16, 17, 18, 19] (.one 4 (.two 9 (.two 10 (.one 15 (.one 20 (.one 21 (.one 22 .nil)))) 15 (.one 10 (.one 20 (.one 21 (.one 22 .nil))))) 15 (.one 9 (.one 10 (.one 20 (.one 21 (.one 22 .nil))))))) [20, 21, 22] (fun w' => CpS W L d lg A A2 c c2 x w' ∧ (∀ i, w'.cell? ⟨d, i, none⟩ = #[ptr lg, .slice A2 x.st.length c2, .bool x.has][i]?) ∧ (∀ i, w'.cell? ⟨lg, i, none⟩ = #[.slice A x.b.length c, ei x.safe][i]?)) (fun _ => trivial) (by kernel_rfl) (by kernel_rfl) ?hS ?_
  case hS => (first | exact CpS.all HS.drew | exact CpS.all (by assumption) | exact CpS.all (CpS.alloc (by assumption) _))
  apply hd_on (i := 0) rfl rfl
  · (intro w' hS; go_simp; try rfl)
  simp only [List.getElem_toArray, List.getElem_cons_succ, List.getElem_cons_zero, Act.put, List.setIfInBounds_toArray, List.set_cons_succ, List.set_cons_zero]
  apply hd_on (i := 1) rfl rfl
  · (intro w' hS; go_simp; try rfl)
  simp only [List.getElem_toArray, List.getElem_cons_succ, List.getElem_cons_zero, Act.put, List.setIfInBounds_toArray, List.set_cons_succ, List.set_cons_zero]
  apply hd_on (i := 2) rfl rfl
  · (intro w' hS; go_simp; try rfl)
  simp only [List.getElem_toArray, List.getElem_cons_succ, List.getElem_cons_zero, Act.put, List.setIfInBounds_toArray, List.set_cons_succ, List.set_cons_zero]
  apply hd_on (i := 3) rfl rfl
  · (intro w' hS; go_simp; try rfl)
  simp only [List.getElem_toArray, List.getElem_cons_succ, List.getElem_cons_zero, Act.put, List.setIfInBounds_toArray, List.set_cons_succ, List.set_cons_zero]
  apply hd_on (i := 5) rfl rfl
  · (intro w' hS; go_simp; try rfl)
  simp only [List.getElem_toArray, List.getElem_cons_succ, List.getElem_cons_zero, Act.put, List.setIfInBounds_toArray, List.set_cons_succ, List.set_cons_zero]
  apply hd_on (i := 6) rfl rfl
  · (intro w' hS; go_simp; try rfl)
  simp only [List.getElem_toArray, List.getElem_cons_succ, List.getElem_cons_zero, Act.put, List.setIfInBounds_toArray, List.set_cons_succ, List.set_cons_zero]
  apply hd_on (i := 7) rfl rfl
  · (intro w' hS; go_simp; try rfl)
  simp only [List.getElem_toArray, List.getElem_cons_succ, List.getElem_cons_zero, Act.put, List.setIfInBounds_toArray, List.set_cons_succ, List.set_cons_zero]
  apply hd_on (i := 8) rfl rfl
  · (intro w' hS; go_simp; try rfl)
  simp only [List.getElem_toArray, List.getElem_cons_succ, List.getElem_cons_zero, Act.put, List.setIfInBounds_toArray, List.set_cons_succ, List.set_cons_zero]
  apply hd_on (i := 11) rfl rfl
  · (intro w' hS; go_simp; try rfl)
  simp only [List.getElem_toArray, List.getElem_cons_succ, List.getElem_cons_zero, Act.put, List.setIfInBounds_toArray, List.set_cons_succ, List.set_cons_zero]
  apply hd_on (i := 12) rfl rfl
  · (intro w' hS; go_simp; try rfl)
  simp only [List.getElem_toArray, List.getElem_cons_succ, List.getElem_cons_zero, Act.put, List.setIfInBounds_toArray, List.set_cons_succ, List.set_cons_zero]
  apply hd_on (i := 13) rfl rfl
  · (intro w' hS; go_simp; try rfl)
  simp only [List.getElem_toArray, List.getElem_cons_succ, List.getElem_cons_zero, Act.put, List.setIfInBounds_toArray, List.set_cons_succ, List.set_cons_zero]
  apply hd_on (i := 14) rfl rfl
  · (intro w' hS; go_simp; try rfl)
  simp only [List.getElem_toArray, List.getElem_cons_succ, List.getElem_cons_zero, Act.put, List.setIfInBounds_toArray, List.set_cons_succ, List.set_cons_zero]
  apply hd_on (i := 16) rfl rfl
  · (intro w' hS; go_simp; try rfl)
  simp only [List.getElem_toArray, List.getElem_cons_succ, List.getElem_cons_zero, Act.put, List.setIfInBounds_toArray, List.set_cons_succ, List.set_cons_zero]
  apply hd_on (i := 17) rfl rfl
  · (intro w' hS; go_simp; try rfl)
  simp only [List.getElem_toArray, List.getElem_cons_succ, List.getElem_cons_zero, Act.put, List.setIfInBounds_toArray, List.set_cons_succ, List.set_cons_zero]
  apply hd_on (i := 18) rfl rfl
  · (intro w' hS; go_simp; try rfl)
  simp only [List.getElem_toArray, List.getElem_cons_succ, List.getElem_cons_zero, Act.put, List.setIfInBounds_toArray, List.set_cons_succ, List.set_cons_zero]
  apply hd_on (i := 19) rfl rfl
  · (intro w' hS; go_simp; try rfl)
  simp only [List.getElem_toArray, List.getElem_cons_succ, List.getElem_cons_zero, Act.put, List.setIfInBounds_toArray, List.set_cons_succ, List.set_cons_zero]
  refine hd_nil ?_
  refine tr_one (i := 4) (fun _ => trivial) (fun _ h => by cases h) rfl rfl (fun K hK => ?_)
  go_simp
  refine ⟨rfl, callsIn_wide.2 ((CpS.clone1 ⟨HS.drew, trivial⟩ hx).mono ?_)⟩
  rintro e w1 ⟨⟨A', c', rfl⟩, h1⟩
  refine hK _ _ ⟨fun _ => ?_, ?_⟩
  · (first | exact CpS.all HS.drew | exact CpS.all (by assumption) | exact CpS.all (CpS.alloc (by assumption) _))
  clear hK K
  refine tr_two ?_ ?_
  · refine tr_one (i := 9) (fun _ => trivial) (fun _ h => by cases h) rfl rfl (fun K hK => ?_)
    go_simp
    refine hK _ _ ⟨fun _ => ?_, ?_⟩
    · (first | exact CpS.all HS.drew | exact CpS.all (by assumption) | exact CpS.all (CpS.alloc (by assumption) _))
    clear hK K
    refine tr_two ?_ ?_
    · refine tr_one (i := 10) (fun _ => trivial) (fun _ h => by cases h) rfl rfl (fun K hK => ?_)
      go_simp
      refine hK _ _ ⟨fun _ => ?_, ?_⟩
      · (first | exact CpS.all HS.drew | exact CpS.all (by assumption) | exact CpS.all (CpS.alloc (by assumption) _))
      clear hK K
      refine tr_one (i := 15) (fun _ => trivial) (fun _ h => by cases h) rfl rfl (fun K hK => ?_)
      go_simp
      refine ⟨rfl, callsIn_wide.2 ((CpS.clone2 (by first | exact ⟨h1, trivial⟩ | exact ⟨CpS.alloc h1 _, trivial⟩) hx2).mono ?_)⟩
      rintro e w2 ⟨⟨A'', c'', rfl⟩, h2⟩
      refine hK _ _ ⟨fun _ => ?_, ?_⟩
      · (first | exact CpS.all HS.drew | exact CpS.all (by assumption) | exact CpS.all (CpS.alloc (by assumption) _))
      clear hK K
      refine tr_one (i := 20) (fun _ => trivial) (fun _ h => by cases h) rfl rfl (fun K hK => ?_)
      go_simp
      refine hK _ _ ⟨fun h => by simp at h, ?_⟩
      clear hK K
      refine tr_one (i := 21) (fun _ => trivial) (fun _ h => by cases h) rfl rfl (fun K hK => ?_)
      go_simp
      refine hK _ _ ⟨fun h => by simp at h, ?_⟩
      clear hK K
      refine tr_one (i := 22) (fun _ => trivial) (fun _ h => by cases h) rfl rfl (fun K hK => ?_)
      go_simp
      refine hK _ _ ⟨fun h => by simp at h, ?_⟩
      clear hK K
      refine tr_nil ?_
      go_wp2_with fail
      go_ret
      exact ⟨_, rfl, Own.dsk_shut (x := x) (by first | exact CpS.alloc (CpS.alloc h2 _) _ | exact CpS.alloc h2 _)⟩
    · refine tr_one (i := 15) (fun _ => trivial) (fun _ h => by cases h) rfl rfl (fun K hK => ?_)
      go_simp
      refine ⟨rfl, callsIn_wide.2 ((CpS.clone2 (by first | exact ⟨h1, trivial⟩ | exact ⟨CpS.alloc h1 _, trivial⟩) hx2).mono ?_)⟩
      rintro e w2 ⟨⟨A'', c'', rfl⟩, h2⟩
      refine hK _ _ ⟨fun _ => ?_, ?_⟩
      · (first | exact CpS.all HS.drew | exact CpS.all (by assumption) | exact CpS.all (CpS.alloc (by assumption) _))
      clear hK K
      refine tr_one (i := 10) (fun _ => trivial) (fun _ h => by cases h) rfl rfl (fun K hK => ?_)
      go_simp
      refine hK _ _ ⟨fun _ => ?_, ?_⟩
      · (first | exact CpS.all HS.drew | exact CpS.all (by assumption) | exact CpS.all (CpS.alloc (by assumption) _))
      clear hK K
      refine tr_one (i := 20) (fun _ => trivial) (fun _ h => by cases h) rfl rfl (fun K hK => ?_)
      go_simp
      refine hK _ _ ⟨fun h => by simp at h, ?_⟩
      clear hK K
      refine tr_one (i := 21) (fun _ => trivial) (fun _ h => by cases h) rfl rfl (fun K hK => ?_)
      go_simp
      refine hK _ _ ⟨fun h => by simp at h, ?_⟩
      clear hK K
      refine tr_one (i := 22) (fun _ => trivial) (fun _ h => by cases h) rfl rfl (fun K hK => ?_)
      go_simp
      refine hK _ _ ⟨fun h => by simp at h, ?_⟩
      clear hK K
      refine tr_nil ?_
      go_wp2_with fail
      go_ret
      exact ⟨_, rfl, Own.dsk_shut (x := x) (by first | exact CpS.alloc (CpS.alloc h2 _) _ | exact CpS.alloc h2 _)⟩
  · refine tr_one (i := 15) (fun _ => trivial) (fun _ h => by cases h) rfl rfl (fun K hK => ?_)
    go_simp
    refine ⟨rfl, callsIn_wide.2 ((CpS.clone2 (by first | exact ⟨h1, trivial⟩ | exact ⟨CpS.alloc h1 _, trivial⟩) hx2).mono ?_)⟩
    rintro e w2 ⟨⟨A'', c'', rfl⟩, h2⟩
    refine hK _ _ ⟨fun _ => ?_, ?_⟩
    · (first | exact CpS.all HS.drew | exact CpS.all (by assumption) | exact CpS.all (CpS.alloc (by assumption) _))
    clear hK K
    refine tr_one (i := 9) (fun _ => trivial) (fun _ h => by cases h) rfl rfl (fun K hK => ?_)
    go_simp
    refine hK _ _ ⟨fun _ => ?_, ?_⟩
    · (first | exact CpS.all HS.drew | exact CpS.all (by assumption) | exact CpS.all (CpS.alloc (by assumption) _))
    clear hK K
    refine tr_one (i := 10) (fun _ => trivial) (fun _ h => by cases h) rfl rfl (fun K hK => ?_)
    go_simp
    refine hK _ _ ⟨fun _ => ?_, ?_⟩
    · (first | exact CpS.all HS.drew | exact CpS.all (by assumption) | exact CpS.all (CpS.alloc (by assumption) _))
    clear hK K
    refine tr_one (i := 20) (fun _ => trivial) (fun _ h => by cases h) rfl rfl (fun K hK => ?_)
    go_simp
    refine hK _ _ ⟨fun h => by simp at h, ?_⟩
    clear hK K
    refine tr_one (i := 21) (fun _ => trivial) (fun _ h => by cases h) rfl rfl (fun K hK => ?_)
    go_simp
    refine hK _ _ ⟨fun h => by simp at h, ?_⟩
    clear hK K
    refine tr_one (i := 22) (fun _ => trivial) (fun _ h => by cases h) rfl rfl (fun K hK => ?_)
    go_simp
    refine hK _ _ ⟨fun h => by simp at h, ?_⟩
    clear hK K
    refine tr_nil ?_
    go_wp2_with fail
    go_ret
    exact ⟨_, rfl, Own.dsk_shut (x := x) (by first | exact CpS.alloc (CpS.alloc h2 _) _ | exact CpS.alloc h2 _)⟩
end Sk
