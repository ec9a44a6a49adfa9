/- Package stable: Write, do. -/
import Derived.Test.YtpgbfoeejiamjaaGreatDoorK08
import Derived.Test.YtpgbfoeejiamjaaGreatDoorK10
import Derived.Test.YtpgbfoeejiamjaaGreatDoorProg
import Derived.Test.YtpgbfoeejiamjaaGreatDoorK01
import Derived.Test.YtpgbfoeejiamjaaGreatDoorK03
import Derived.IntWalk
set_option linter.all false
set_option linter.unusedVariables false
set_option linter.unusedSimpArgs false
set_option linter.unusedSectionVars false
namespace Sk
open Go Go.RowKit Go.Proofs
/-- A record is written, and made safe: the error, and the disk. -/
def Dsk.write (x : Dsk) (s : List UInt8) : Int × Dsk := if (x.append s).1 = 0 then (0, { (x.append s).2 with safe := (x.append s).2.b.length }) else x.append s
section
variable {W w : World} {L : List Asn}
set_option maxRecDepth 100000 in
set_option maxHeartbeats 1000000 in
theorem writeC (hF : Fours W) {d : Nat} {x : Dsk} {v : Value} {s : List UInt8} (H : Own W w (dskA d x :: slA 1 v s.length (s.map byteV) :: L)) (hx : x.b.length ≤ 16777216) :
    Calls Tryz.prog 24 #[ptr d, v] w fun e w' => e = .returned (ei (x.write s).1) ∧ Own W w' (dskA d (x.write s).2 :: slA 1 v s.length (s.map byteV) :: L) := by
  have hap := Lib.hid (diskAppend hF H hx)
  obtain ⟨A3, c3, rfl, _⟩ := H.front2.sl_rd.form
  obtain ⟨er, y, hy⟩ : ∃ er y, x.append s = (er, y) := ⟨_, _, rfl⟩
  by_cases he : er = 0
  · subst he
    have e2 : x.write s = (0, { y with safe := y.b.length }) := by unfold Dsk.write; rw [hy, if_pos rfl]
    rw [e2]
    rw [hy] at hap
    clear hy e2
    go_enter Tryz.func24, Tryz.ntmps24
    go_wp2_with (first | (go_at_call 47; refine hap.out.mono ?_; rintro e w1 ⟨rfl, H1⟩) | (go_at_call 85; refine (diskSync H1).mono ?_; rintro e w2 ⟨rfl, H2⟩))
    go_ret
    exact ⟨rfl, H2⟩
  · have e2 : x.write s = (er, y) := by unfold Dsk.write; rw [hy, if_neg he]
    rw [e2]
    rw [hy] at hap
    have hq : (er != 0) = true := by simpa using he
    clear hy e2 he
    go_enter Tryz.func24, Tryz.ntmps24
    go_wp2_with (go_at_call 47; refine hap.out.mono ?_; rintro e w1 ⟨rfl, H1⟩)
    go_ret
    exact ⟨rfl, H1⟩
/-- What doing a record leaves. -/
def DoPost (W : World) (L : List Asn) (pa pl : Nat) (o : Int × Acc × Log) (e : Ending) (w : World) : Prop :=
  e = .returned (ei o.1) ∧ o.2.2.ok ∧ Own W w (accA pa o.2.1 :: logA pl o.2.2 :: L)
set_option maxRecDepth 100000 in
set_option maxHeartbeats 4000000 in
theorem doC {pa pl : Nat} {a : Acc} {l : Log} (H : Own W w (accA pa a :: logA pl l :: L)) (ha : a.ok) (hl : l.ok) (r : Rec) (hv : r.value.length ≤ 140737488355328) :
    Calls Tryz.prog 93 #[.agg #[ptr pa, ptr pl], r.v] w (DoPost W L pa pl (doP a l r)) := by
  have H1 := (H.skip (.cells #[ptr pa, ptr pl] 133)).skip (.cells #[ei r.kind, ei r.b.r, ei r.b.n, ei r.slot, .string ⟨r.value.toArray⟩] 113)
  have hn : 0 < a.n := by have := ha.n1; omega
  have HL := Lib.hid hl
  by_cases h1 : r.kind = 1
  · have e1 : doP a l r = ((a.promise r.b 0).1, (a.promise r.b 0).2, l) := if_pos h1
    rw [e1]
    have hk : (r.kind : Int) = 1 := by omega
    by_cases he : (a.promise r.b 0).1 = 0
    · obtain ⟨s', hs'⟩ : ∃ s', a.promise r.b 0 = (0, s') := ⟨(a.promise r.b 0).2, Prod.ext he rfl⟩
      have hp := Lib.hid (accPromiseOk H1 hn ha.slot r.b 0 s' hs')
      rw [hs']
      rw [Rec.v]
      rw [hk] at hp ⊢
      clear hs' he e1 h1 hk hl
      go_enter Tryz.func93, Tryz.ntmps93
      go_wp2_with (go_at_call 35; refine hp.out.mono ?_; rintro e w1 ⟨v, li, rfl, hrep, H2⟩)
      go_ret
      exact ⟨rfl, HL.out, H2.drop⟩
    · obtain ⟨er, hs'⟩ : ∃ er, a.promise r.b 0 = (er, a) ∧ er ≠ 0 := by
        refine ⟨(a.promise r.b 0).1, ?_, he⟩
        unfold Acc.promise at he ⊢
        split
        · rfl
        · split
          · rfl
          · rename_i g1 g2; rw [if_neg g1, if_neg g2] at he; exact absurd rfl he
      have hp := Lib.hid (accPromiseNo H1 hn r.b 0 er hs'.1 hs'.2)
      rw [hs'.1]
      rw [Rec.v]
      rw [hk] at hp ⊢
      clear hs' he e1 h1 hk hl
      go_enter Tryz.func93, Tryz.ntmps93
      go_wp2_with (go_at_call 35; refine hp.out.mono ?_; rintro e w1 ⟨rfl, H2⟩)
      go_ret
      exact ⟨rfl, HL.out, H2⟩
  · by_cases h2 : r.kind = 2
    · have e1 : doP a l r = ((a.accept r.b r.slot ⟨r.value.toArray⟩).1, (a.accept r.b r.slot ⟨r.value.toArray⟩).2, l) := by unfold doP; rw [if_neg h1, if_pos h2]
      rw [e1]
      have hk : (r.kind : Int) = 2 := by omega
      have hp := Lib.hid (accAccept H1 r.b r.slot ⟨r.value.toArray⟩ hn)
      rw [Rec.v]
      rw [hk] at hp ⊢
      clear e1 h1 h2 hk hl
      go_enter Tryz.func93, Tryz.ntmps93
      go_wp2_with (go_at_call 37; refine hp.out.mono ?_; rintro e w1 ⟨rfl, H2⟩)
      go_ret
      exact ⟨rfl, HL.out, H2⟩
    · have e1 : doP a l r = (l.putE r.slot ⟨r.value.toArray⟩, a, l.put r.slot ⟨r.value.toArray⟩) := by unfold doP; rw [if_neg h1, if_neg h2]
      rw [e1]
      have hp := Lib.hid (logPut H1.front2 hl r.slot ⟨r.value.toArray⟩ (by simpa [ByteArray.size] using hv))
      have q1 : ((r.kind : Int) == 1) = false := by simp; omega
      have q2 : ((r.kind : Int) == 2) = false := by simp; omega
      rw [Rec.v]
      clear e1 h1 h2 hl
      go_enter Tryz.func93, Tryz.ntmps93
      go_wp2_with (go_at_call 39; refine hp.out.mono ?_; rintro e w1 ⟨rfl, t, ht, H2⟩)
      go_ret
      obtain ⟨rfl, ho⟩ := putTo_eq HL.out ht
      exact ⟨rfl, ho, H2.front2⟩
end
end Sk
/- Package disk: Records. -/
namespace Sk
open Go Go.RowKit Go.Proofs
attribute [local go_sem] Oper.semAt_some
theorem frows_len (xs : List (Frm × Value)) : (frows xs).length = xs.length * 2 := by
  induction xs with
  | nil => rfl
  | cons x xs ih => simp only [frows, List.flatMap_cons, List.length_append, List.length_cons, List.length_nil] at ih ⊢; omega
theorem frows_at {xs : List (Frm × Value)} {i : Nat} {x : Frm × Value} (h : xs[i]? = some x) : (frows xs)[i * 2]? = some (ei x.1.k) ∧ (frows xs)[i * 2 + 1]? = some x.2 := by
  induction xs generalizing i with
  | nil => simp at h
  | cons y xs ih =>
    rcases i with _ | i
    · simp at h; subst h; simp [frows]
    · have := ih (i := i) (by simpa using h)
      have e1 : (i + 1) * 2 = i * 2 + 2 := by omega
      simp only [frows, List.flatMap_cons] at this ⊢
      rw [e1]
      exact this
theorem Own.dropL {W w : World} {L1 L2 : List Asn} (H : Own W w (L1 ++ L2)) : Own W w L2 := by
  induction L1 with
  | nil => exact H
  | cons A L ih => exact ih H.drop
theorem split_at {α : Type} {xs : List α} {i : Nat} {x : α} (h : xs[i]? = some x) : xs = xs.take i ++ x :: xs.drop (i + 1) := by
  have hlt := (List.getElem?_eq_some_iff.1 h).1
  have hx := (List.getElem?_eq_some_iff.1 h).2
  rw [← hx, List.getElem_cons_drop, List.take_append_drop]
/-- One content, and all of them still. -/
theorem Own.fsl_get {W w : World} {L : List Asn} {xs : List (Frm × Value)} {i : Nat} {x : Frm × Value} (h : xs[i]? = some x) (H : Own W w (grp (fsl xs) :: L)) : Own W w (slA 1 x.2 x.1.ct.length (x.1.ct.map byteV) :: grp (fsl xs) :: L) := by
  have e : fsl xs = fsl (xs.take i) ++ slA 1 x.2 x.1.ct.length (x.1.ct.map byteV) :: fsl (xs.drop (i + 1)) := by
    conv => lhs; rw [split_at h]
    simp [fsl]
  have H := Own.grp_iff.1 H
  rw [e, List.append_assoc, List.cons_append] at H
  have h1 := (Own.front _ H).sl_dup
  have h2 : Own W w (slA 1 x.2 x.1.ct.length (x.1.ct.map byteV) :: (fsl xs ++ L)) := by
    rw [e, List.append_assoc, List.cons_append]
    exact h1.perm (.cons _ (perm_front _ _ _).symm)
  exact (Own.grp_iff.2 (h2.perm (perm_front _ (fsl xs) _).symm)).front2
/-- The contents of a log, one after the other. -/
theorem recs1 {W : World} (hF : Fours W) (m l bx lg : Nat) {A : Option Addr} {n c : Nat} {k : Value} {s : List UInt8} {X : Asn} (hX : ∀ {w : World} {L : List Asn}, Own W w (X :: L) → RdW w 1 (.slice A n c) s.length (s.map byteV)) (J Jx : List (Frm × Value) → Asn)
    (hY : ∀ (pre : List (Frm × Value)) (x : Frm × Value) (rest : List (Frm × Value)) (w' : World) (R : List Asn), (pre ++ x :: rest).map Prod.fst = framesP s 0 → Own W w' (slA 1 x.2 x.1.ct.length (x.1.ct.map byteV) :: J pre :: R) → YieldAt FW m Tryz.prog l #[x.2] w' fun e w'' =>
      (e = .returned (.bool true) ∧ Own W w'' (J (pre ++ [x]) :: R)) ∨ (e = .returned (.bool false) ∧ Own W w'' (Jx (pre ++ [x]) :: R)))
    (w : World) (hs : s.length ≤ 16777216) {L : List Asn} (H : Own W w (J [] :: blk bx (.cells #[ptr lg] 122) :: blk lg (.cells #[.slice A n c, k] 124) :: X :: L)) :
    CallsIn FW (m + 1) Tryz.prog 198 #[.func (.yield l) #[] #[], ptr bx] w fun e w' => (∃ v, e = .returned v) ∧
      ((∃ xs, xs.map Prod.fst = framesP s 0 ∧ Own W w' (J xs :: blk lg (.cells #[.slice A n c, k] 124) :: X :: L)) ∨ ∃ pre x rest, (pre ++ x :: rest).map Prod.fst = framesP s 0 ∧ Own W w' (Jx (pre ++ [x]) :: blk lg (.cells #[.slice A n c, k] 124) :: X :: L)) := by
  have H0 : Own W w (X :: blk bx (.cells #[ptr lg] 122) :: blk lg (.cells #[.slice A n c, k] 124) :: J [] :: L) := H.sel [3, 1, 2, 0]
  have hb := H0.front2.cell
  have hl := H0.front3.cell
  clear H
  refine callsIn_of_wp Tryz.func198 rfl trivial ?_ rfl
  simp only [Tryz.ntmps198, List.size_toArray, List.length_cons, List.length_nil, Nat.reduceAdd, Nat.reduceSub, Array.replicate_succ, Array.replicate_zero, List.push_toArray, List.append_toArray, List.nil_append, List.cons_append]
  gi_wp2_with fail
  refine ⟨trivial, callsIn_wide.2 ((allC hF hX H0 (by omega)).mono ?_)⟩
  rintro e w1 ⟨v, xs, rfl, hxs, H1⟩
  obtain ⟨A5, c5, rfl, _⟩ := H1.row_rd.form
  have H1 : Own W w1 (grp (fsl xs) :: rowA 247 2 (.slice A5 xs.length c5) xs.length (frows xs) :: X :: blk bx (.cells #[ptr lg] 122) :: blk lg (.cells #[.slice A n c, k] 124) :: J [] :: L) :=
    Own.grp_iff.2 (H1.perm (perm_front _ (fsl xs) _).symm)
  gi_wp2_with fail
  gi_loopw [19] (fun vi wr => ∃ i : Nat, vi = .int .i64 (i : Int) ∧ i ≤ xs.length ∧ Own W wr (rowA 247 2 (.slice A5 xs.length c5) xs.length (frows xs) :: grp (fsl xs) :: X :: blk bx (.cells #[ptr lg] 122) :: blk lg (.cells #[.slice A n c, k] 124) :: J (xs.take i) :: L)) (fun vi _ => xs.length - intN vi)
  case atStart => exact ⟨0, rfl, by omega, H1.front2⟩
  case round =>
    obtain ⟨i, rfl, hi, HH⟩ := hrel
    by_cases hlt : i < xs.length
    · obtain ⟨x, hx⟩ : ∃ x, xs[i]? = some x := ⟨_, List.getElem?_eq_getElem hlt⟩
      have HG := Own.fsl_get hx HH.front2
      rcases HH.row_cases with ⟨_, h0, _⟩ | ⟨g, cap, cur, hv, h1, h2, h3, h4, h5, HB⟩
      · omega
      · cases hv
        have hca := HB.cell
        obtain ⟨f1, f2⟩ := frows_at hx
        have hcur : ∀ j u, (frows xs)[j]? = some u → wr.cell? ⟨g, j, none⟩ = some u := by
          intro j u hj
          rw [hca]
          rw [← h4, List.getElem?_take] at hj
          split at hj
          · simpa using hj
          · cases hj
        have hg0 := hcur _ _ f1
        have hg1 := hcur _ _ f2
        obtain ⟨y, cv⟩ := x
        obtain ⟨Ax, cx, hcv, _⟩ := HG.sl_rd.form
        obtain ⟨nn, hnn⟩ : ∃ nn, nn = y.ct.length := ⟨_, rfl⟩
        simp only at hcv
        rw [← hnn] at hcv
        subst hcv
        subst hnn
        have hp : (xs.take i ++ (y, Value.slice Ax y.ct.length cx) :: xs.drop (i + 1)).map Prod.fst = framesP s 0 := by rw [← split_at hx]; exact hxs
        have H4 := (HG.alloc (.cells #[ei y.k, .slice Ax y.ct.length cx] 247)).sel [1, 7]
        obtain ⟨fn, tmps, assign, body, hy, hR⟩ := hY _ _ _ _ _ hp H4
        have HR := Lib.hid hR
        have hbd : xs.length ≤ 9223372036854775806 := by (have := framesP_len s s.length 0 (by omega) (by omega); have e := congrArg List.length hxs; simp only [List.length_map] at e; omega)
        have Hx := Lib.hid hx
        have h5 := Lib.hid h3
        have HP := Lib.hid hp
        clear hR hx hca hcur h3 h4 hxs hp
        gi_wp2_with fail
        have ht : xs.take i ++ [(y, Value.slice Ax y.ct.length cx)] = xs.take (i + 1) := by rw [List.take_add_one, Hx.out]; rfl
        have HT := Lib.hid ht
        clear ht
        refine HR.out.mono ?_
        rintro e W' (⟨rfl, H'⟩ | ⟨rfl, H'⟩)
        · gi_wp2_with fail
          refine ⟨⟨i + 1, by go_num, hlt, ?_⟩, by simp only [intN]; omega⟩
          have h := (Own.sel H' [1, 3, 2, 4, 5, 6, 0]).drop
          rw [HT.out] at h
          exact h
        · gi_wp2_with fail
          refine bodyPost_ret (results_none rfl _ _ _) rfl ?_
          exact ⟨⟨_, rfl⟩, .inr ⟨_, _, _, HP.out, (Own.sel H' [1, 2, 3, 5, 0, 6, 4]).drop.drop.drop.drop⟩⟩
    · have : i = xs.length := by omega
      subst this
      rw [List.take_length] at HH
      gi_wp2_with fail
      refine bodyPost_end (results_none rfl _ _ _) rfl ?_
      exact ⟨⟨_, rfl⟩, .inl ⟨xs, hxs, (HH.sel [5, 4, 2]).drop4.drop4.drop4⟩⟩
end Sk
/- Package disk: Records, Tear. -/
namespace Sk
open Go Go.RowKit Go.Proofs
attribute [local go_sem] Oper.semAt_some
attribute [local go_sem ↓] append_hide
theorem rowsT : SlT Tryz.prog 36 24 1 24 where
  type := Tryz.underlying36
  info := info_parts1 (z := .slice none 0 0) (by kernel_rfl) rfl
  pos := by decide
/-- What contents were collected, in a variable. -/
def recsA (g : Nat) (pre : List (Frm × Value)) : Asn := exi fun v : Value => grp [blk g (.cells #[v] 36), rowA 24 1 v pre.length (pre.map Prod.snd), grp (fsl pre)]
section
variable {W w : World} {L : List Asn} {g : Nat} {pre : List (Frm × Value)}
theorem Own.recs_open (H : Own W w (recsA g pre :: L)) : ∃ A c, Own W w (blk g (.cells #[.slice A pre.length c] 36) :: rowA 24 1 (.slice A pre.length c) pre.length (pre.map Prod.snd) :: grp (fsl pre) :: L) := by
  obtain ⟨v, H⟩ := Own.exi_iff.1 H
  have H : Own W w (blk g (.cells #[v] 36) :: rowA 24 1 v pre.length (pre.map Prod.snd) :: grp (fsl pre) :: L) := Own.grp_iff.1 H
  obtain ⟨A, c, rfl, _⟩ := H.front2.row_rd.form
  exact ⟨A, c, H⟩
theorem Own.recs_shut {v : Value} (H : Own W w (blk g (.cells #[v] 36) :: rowA 24 1 v pre.length (pre.map Prod.snd) :: grp (fsl pre) :: L)) : Own W w (recsA g pre :: L) :=
  Own.exi_iff.2 ⟨v, Own.grp_iff.2 H⟩
theorem Own.fsl_snoc {x : Frm × Value} (H : Own W w (slA 1 x.2 x.1.ct.length (x.1.ct.map byteV) :: grp (fsl pre) :: L)) : Own W w (grp (fsl (pre ++ [x])) :: L) := by
  rw [Sk.fsl_snoc]
  have h := Own.grp_iff.1 H.front2
  refine Own.grp_iff.2 ?_
  rw [List.append_assoc]
  exact h
end
def RecsPost (W : World) (L : List Asn) (fs : List Frm) (e : Ending) (w : World) : Prop :=
  ∃ v xs, e = .returned v ∧ xs.map Prod.fst = fs ∧ Own W w (rowA 24 1 v xs.length (xs.map Prod.snd) :: grp (fsl xs) :: L)
def gotA (g : Nat) (s : List UInt8) : Asn := exi fun xs : List (Frm × Value) => grp [pur (xs.map Prod.fst = framesP s 0), recsA g xs]
theorem Own.got_shut {W w : World} {L : List Asn} {g : Nat} {s : List UInt8} {xs : List (Frm × Value)} (h : xs.map Prod.fst = framesP s 0) (H : Own W w (recsA g xs :: L)) : Own W w (gotA g s :: L) :=
  Own.exi_iff.2 ⟨xs, Own.grp_iff.2 (Own.pur_iff.2 ⟨h, H⟩)⟩
theorem Own.got_open {W w : World} {L : List Asn} {g : Nat} {s : List UInt8} (H : Own W w (gotA g s :: L)) : ∃ xs, xs.map Prod.fst = framesP s 0 ∧ Own W w (recsA g xs :: L) := by
  obtain ⟨xs, H⟩ := Own.exi_iff.1 H
  exact ⟨xs, Own.pur_iff.1 (Own.grp_iff.1 H)⟩
set_option maxRecDepth 100000 in
set_option maxHeartbeats 1000000 in
theorem appendSeqB {W w : World} {L : List Asn} (hF : Fours W) {bx lg n c : Nat} {A : Option Addr} {k : Value} {s : List UInt8} {X : Asn} (hX : ∀ {w : World} {L : List Asn}, Own W w (X :: L) → RdW w 1 (.slice A n c) s.length (s.map byteV))
    (H : Own W w (blk bx (.cells #[ptr lg] 122) :: blk lg (.cells #[.slice A n c, k] 124) :: X :: L)) (hs : s.length ≤ 16777216) :
    Calls Tryz.prog 197 #[.slice none 0 0, .func (.func 198) #[] #[ptr bx]] w (RecsPost W (blk lg (.cells #[.slice A n c, k] 124) :: X :: L) (framesP s 0)) := by
  refine (callsIn_wide (n := 5)).1 ?_
  refine callsIn_of_wp_marks Tryz.func197 rfl trivial ?_ rfl
  simp only [Tryz.ntmps197, List.size_toArray, List.length_cons, List.length_nil, Nat.reduceAdd, Nat.reduceSub, Array.replicate_succ, Array.replicate_zero, List.push_toArray, List.append_toArray, List.nil_append, List.cons_append]
  gi_wp2
  have H1 := H.alloc (.cells #[.slice none 0 0] 36)
  have hlen := framesP_len s s.length 0 (by omega) (by omega)
  refine range_own (Ld := gotA w.heap.size s :: blk lg (.cells #[.slice A n c, k] 124) :: X :: L) (Lx := fun _ => [pur False]) H1 rfl (enters_of Tryz.func198 (by kernel_rfl) rfl) ?iter ?done ?stop
  case iter =>
    intro r l D w1 R HI
    have HJ : Own W w1 (grp [blk l (.loop r), blk D (.deferred (some [])), recsA w.heap.size []] :: blk bx (.cells #[ptr lg] 122) :: blk lg (.cells #[.slice A n c, k] 124) :: X :: L) := by
      have h0 : Own W w1 (grp (fsl []) :: rowA 24 1 (.slice none 0 0) 0 [] :: blk l (.loop r) :: blk D (.deferred (some [])) :: blk w.heap.size (.cells #[.slice none 0 0] 36) :: blk bx (.cells #[ptr lg] 122) :: blk lg (.cells #[.slice A n c, k] 124) :: X :: L) := Own.grp_iff.2 (HI.row_nil 24 1)
      have h := Own.recs_shut (pre := []) (v := .slice none 0 0) (h0.sel [4, 1, 0])
      exact Own.grp_iff.2 (h.sel [1, 2, 0, 3, 4, 5])
    refine (recs1 hF 3 l bx lg hX (fun pre => grp [blk l (.loop r), blk D (.deferred (some [])), recsA w.heap.size pre]) (fun _ => pur False) ?_ w1 hs HJ).mono ?_
    · intro pre x rest w' RR hx H'
      have H'' : Own W w' (blk l (.loop r) :: blk D (.deferred (some [])) :: recsA w.heap.size pre :: slA 1 x.2 x.1.ct.length (x.1.ct.map byteV) :: RR) := (Own.grp_iff.1 H'.front2).sel [0, 1, 2, 3]
      obtain ⟨A4, c4, H2⟩ := H''.front3.recs_open
      have hpl : pre.length + 1 ≤ s.length := by
        have e : (pre ++ x :: rest).length = (framesP s 0).length := by rw [← hx]; simp
        simp at e; omega
      have H3 := H2.sel [3, 0, 1, 2, 4, 5]
      obtain ⟨y, cv⟩ := x
      obtain ⟨Ax, cx, hcv, _⟩ := (H3.sel [5]).sl_rd.form
      obtain ⟨nn, hnn⟩ : ∃ nn, nn = y.ct.length := ⟨_, rfl⟩
      simp only at hcv
      rw [← hnn] at hcv
      subst hcv
      subst hnn
      have Y : YieldAt FW 3 Tryz.prog l #[.slice Ax y.ct.length cx] w' (yielded' W l r (recsA w.heap.size (pre ++ [(y, .slice Ax y.ct.length cx)]) :: blk D (.deferred (some [])) :: RR) (fun _ => [pur False])) := by
        refine round_is R H3 rfl ?_
        gi_wp2
        refine ⟨_, H3, fun w₂ H5 => ?_⟩
        have ha := H5.front2.cell
        obtain ⟨A', c', w3, hap, H7⟩ := ((Own.skip H5 (.cells #[.slice Ax y.ct.length cx] 24)).sel [2]).append_eq (m := 1) rowsT 36 (rd_new w₂ #[.slice Ax y.ct.length cx] 24 rfl (by decide)) (by simp [Value.oneCell']) (by unfold maxLen; omega) (by omega)
        have H8 := Own.sel H7 [2]
        have hc8 := H8.cell
        have hf8 := H8.free
        have H9 := H8.set 0 (.slice A' (pre.length + 1) c')
        gi_wp2
        have H10 := (Own.fsl_snoc (x := (y, .slice Ax y.ct.length cx)) (H9.sel [5, 3])).sel [1, 2, 0]
        refine Own.front2 (Own.recs_shut (pre := pre ++ [(y, .slice Ax y.ct.length cx)]) (v := .slice A' (pre.length + 1) c') ?_)
        rw [List.length_append, List.map_append]
        exact H10
      exact Y.mono fun e w'' h => by
        rcases h with ⟨rfl, h⟩ | ⟨rfl, c, h⟩
        · exact .inl ⟨rfl, Own.grp_iff.2 (Own.sel h [0, 2, 1])⟩
        · exact ((Own.pur_iff.1 h.front2).1).elim
    · rintro e w2 ⟨hv, h⟩
      refine ⟨hv, ?_⟩
      rcases h with ⟨xs, hxs, h⟩ | ⟨_, _, _, _, h⟩
      · exact .inl ((Own.got_shut hxs (Own.sel (Own.grp_iff.1 h) [2])).sel [1, 2, 0])
      · exact ((Own.pur_iff.1 h).1).elim
  case done =>
    intro D w2 H2
    obtain ⟨xs, hxs, H3⟩ := H2.front2.got_open
    obtain ⟨A4, c4, H4⟩ := H3.recs_open
    have hc4 := H4.cell
    gi_wp2_with fail
    gi_wp2
    refine ⟨by simp, .inl ⟨_, _, rfl, run_takeDeferred H2.has, ?_⟩⟩
    refine ⟨.slice A4 xs.length c4, by simp [results, Tryz.results197, go_sem], ?_⟩
    have H5 := ((H4.sel [3, 0]).putObj (.deferred none)).drop.drop
    exact ⟨_, xs, rfl, hxs, H5⟩
  case stop =>
    intro D c w2 H2
    exact ((Own.pur_iff.1 H2.front2).1).elim
set_option maxHeartbeats 1000000 in
theorem collectB {W w : World} {L : List Asn} (hF : Fours W) {bx lg n c : Nat} {A : Option Addr} {k : Value} {s : List UInt8} {X : Asn} (hX : ∀ {w : World} {L : List Asn}, Own W w (X :: L) → RdW w 1 (.slice A n c) s.length (s.map byteV))
    (H : Own W w (blk bx (.cells #[ptr lg] 122) :: blk lg (.cells #[.slice A n c, k] 124) :: X :: L)) (hs : s.length ≤ 16777216) :
    Calls Tryz.prog 143 #[.func (.func 198) #[] #[ptr bx]] w (RecsPost W (blk lg (.cells #[.slice A n c, k] 124) :: X :: L) (framesP s 0)) := by
  go_enter Tryz.func143, Tryz.ntmps143
  go_wp2_with (go_at_call 197; refine (appendSeqB hF hX H hs).mono ?_; rintro e w1 ⟨v, xs, rfl, hp⟩)
  go_ret
  exact ⟨v, xs, rfl, hp⟩
set_option maxHeartbeats 1000000 in
theorem contentsC (lg : Nat) (w : World) : Calls Tryz.prog 144 #[ptr lg] w fun e w' => e = .returned (.func (.func 198) #[] #[ptr w.heap.size]) ∧ w.alloc (.cells #[ptr lg] 122) = w' := by
  go_enter Tryz.func144, Tryz.ntmps144
  go_wp2
  go_ret
  exact ⟨rfl, rfl⟩
set_option maxRecDepth 100000 in
set_option maxHeartbeats 1000000 in
theorem diskRecords {W w : World} {L : List Asn} (hF : Fours W) {d : Nat} {x : Dsk} (H : Own W w (dskA d x :: L)) (hs : x.b.length ≤ 16777216) :
    Calls Tryz.prog 53 #[ptr d] w (RecsPost W (dskA d x :: L) (framesP x.b 0)) := by
  obtain ⟨lg, A, n, c, A2, n2, c2, H0⟩ := H.dsk_open
  have hn : n = x.b.length := by
    obtain ⟨_, A', c', e, _⟩ := H0.front3.byt_rd
    cases e; rfl
  subst hn
  have hn2 : n2 = x.st.length := by
    obtain ⟨_, A', c', e, _⟩ := H0.front4.sl_rd
    cases e; rfl
  subst hn2
  have hcd := H0.cell
  have hfd := H0.free
  have hcl := H0.front2.cell
  have hfl := H0.front2.free
  have H1 := (H0.alloc (.cells #[ptr lg] 122)).sel [0, 2, 3, 1, 4]
  have hcol := collectB hF (fun {w} {L} (h : Own W w (bytA (.slice A x.b.length c) x.b :: L)) => h.byt_rd) H1 hs
  have hc := Lib.hid hcol
  clear hcol
  go_enter Tryz.func53, Tryz.ntmps53
  go_wp2_with (first | (go_at_call 82; go_in) | (go_at_call 144; refine (contentsC _ _).mono ?_; rintro e w1 ⟨rfl, rfl⟩) | (go_at_call 143; refine hc.out.mono ?_; rintro e w1 ⟨v, xs, rfl, hp, H2⟩))
  go_ret
  refine ⟨v, xs, rfl, hp, ?_⟩
  exact (Own.dsk_shut (x := x) (H2.sel [4, 2, 3, 5])).sel [1, 2, 0]
/-- How much of a log stays when it is torn. -/
def Dsk.keep (x : Dsk) (left : Int) : Nat := x.safe + (max 0 (min left ((x.b.length : Int) - x.safe))).toNat
def Dsk.tear (x : Dsk) (left : Int) : Dsk := { x with b := x.b.take (lastNx (framesP (x.b.take (x.keep left)) 0)), safe := lastNx (framesP (x.b.take (x.keep left)) 0) }
theorem Dsk.keep_le {x : Dsk} (h : x.safe ≤ x.b.length) (left : Int) : x.keep left ≤ x.b.length := by unfold Dsk.keep; omega
theorem framesP_nx (s : List UInt8) : ∀ (n k : Nat), s.length - k ≤ n → ∀ x ∈ framesP s k, x.nx ≤ s.length := by
  intro n
  induction n with
  | zero =>
    intro k h x hx
    have : nextP s k = none := by unfold nextP; rw [if_pos (by omega)]
    rw [framesP_none this] at hx; cases hx
  | succ n ih =>
    intro k h x hx
    rcases hn : nextP s k with _ | ⟨ct, nx⟩
    · rw [framesP_none hn] at hx; cases hx
    · have hg := nextP_gt hn
      rw [framesP_some hn] at hx
      rcases List.mem_cons.1 hx with rfl | hx
      · exact hg.2
      · exact ih nx (by omega) x hx
theorem lastNx_le (s : List UInt8) : lastNx (framesP s 0) ≤ s.length := by
  unfold lastNx
  cases h : (framesP s 0).getLast? with
  | none => simp
  | some x => exact framesP_nx s s.length 0 (by omega) x (List.mem_of_getLast? h)
theorem slice_hm_eq {P : Program} {t e : TypeId} {size bytes n c h : Nat} {A : Option Addr} (T : SlT P t e size bytes) {kd kd' : IntKind} (hh : h ≤ c) (w : World) : (sliceSem t (.slice A n c) none (some (.int kd (h : Int))) (some (.int kd' (h : Int)))).run P w = .ok (.slice A h h) w := by
  have ht' : P.underlying t = some (.slice (P.elem t)) := by rw [T.elem]; exact T.type
  rw [sliceSem, run_sliceAt_slice w t _ _ _ _ ht', run_slice_hm w t _ _ _ ht' kd kd' _ _ (by omega) (by omega) (by omega), T.elem, T.size_run]
  have := slP_zero A h size
  simp only [slP] at this
  simpa [Result.andThen, sliced] using this
end Sk
/- Package disk: Tear, Copy. -/
namespace Sk
open Go Go.RowKit Go.Proofs
attribute [local go_sem ↓] append_hide slice_hide
theorem RdW.first {w : World} {A : Option Addr} {n c h : Nat} {xs : List UInt8} (hr : RdW w 1 (.slice A n c) n (xs.map byteV)) (h2 : h ≤ n) : RdW w 1 (.slice A h c) (xs.take h).length ((xs.take h).map byteV) := by
  have hl := hr.len
  have h1 := RdW.window (l := 0) (h := h) hr (Nat.zero_le _) h2
  simp only [slP_zero, Nat.sub_zero, Nat.zero_mul, List.drop_zero, Nat.mul_one] at h1
  rw [List.length_take, List.map_take]
  simp only [List.length_map, Nat.mul_one] at hl
  rw [Nat.min_eq_left (by omega)]
  exact h1
theorem tear_fin {W w : World} {A R X : Asn} {F L : List Asn} (H : Own W w (A :: (R :: F ++ [X] ++ L))) : Own W w (A :: X :: L) := by
  have h : Own W w (A :: ((R :: F) ++ X :: L)) := by simpa using H
  exact Own.dropL (Own.back _ h)
theorem Own.sl_cap {W w : World} {L : List Asn} {size n c c' : Nat} {A : Option Addr} {xs : List Value} (H : Own W w (slA size (.slice A n c) n xs :: L)) (h1 : n ≤ c') (h2 : c' ≤ maxLen) : Own W w (slA size (.slice A n c') n xs :: L) :=
  H.imp1 fun _ _ ⟨k1, A', _, e1, _, _, e4⟩ => by cases e1; exact ⟨k1, A, c', rfl, h1, h2, e4⟩
attribute [local go_sem ↓] run_max_hide run_min_hide
set_option maxRecDepth 100000 in
set_option maxHeartbeats 1000000 in
theorem logTear {W w : World} {L : List Asn} (hF : Fours W) {lg c : Nat} {A : Option Addr} {s : List UInt8} {safe : Nat} {X : Asn} (hX : ∀ {w : World} {L : List Asn}, Own W w (X :: L) → RdW w 1 (.slice A s.length c) s.length (s.map byteV))
    (H : Own W w (blk lg (.cells #[.slice A s.length c, ei safe] 124) :: X :: L)) (left : Int) (hl : safe ≤ s.length) (hs : s.length ≤ 16777216) (m e : Nat) (hm : mxI 0 (mnI left ((s.length : Int) - safe)) = m) (he : e = lastNx (framesP (s.take (safe + m)) 0)) :
    Calls Tryz.prog 135 #[ptr lg, ei left] w fun en w' => en = .returned (.tuple #[]) ∧ Own W w' (blk lg (.cells #[.slice A e e, ei e] 124) :: X :: L) := by
  have hc := H.cell
  have hf := H.free
  have hjs : safe + m ≤ s.length := by
    have := mxI_eq 0 (mnI left ((s.length : Int) - safe))
    rw [mnI_eq, ← mnI_eq, hm, mnI_eq] at this
    omega
  have hcap : s.length ≤ c ∧ c ≤ maxLen := by
    obtain ⟨_, A', c', e1, e2, e3, _⟩ := hX H.front2
    cases e1; exact ⟨e2, e3⟩
  have hej : e ≤ safe + m := by
    have := lastNx_le (s.take (safe + m))
    rw [List.length_take] at this
    omega
  have hsl := fun w => slice_h_eq (P := Tryz.prog) (n := s.length) (c := c) (h := safe + m) (A := A) (kd' := .i64) byteT (by omega) w
  have hsl2 := fun w => slice_hm_eq (P := Tryz.prog) (n := s.length) (c := c) (h := e) (A := A) (kd := .i64) (kd' := .i64) byteT (by omega) w
  simp only [slP_zero, Int.natCast_add] at hsl
  have hall := fun (w : World) (h : Own W w (X :: blk lg (.cells #[.slice A s.length c, ei safe] 124) :: L)) => allC hF (v := .slice A (safe + m) c) (s := s.take (safe + m)) (X := X) (fun h => (hX h).first hjs) h (by rw [List.length_take]; omega)
  have HE := Lib.hid he
  have HA := Lib.hid hall
  clear he hall
  go_enter Tryz.func135, Tryz.ntmps135
  go_wp2_with fail
  go_quiet (fail)
  go_wp2_with fail
  have H1 := ((H.drewN nq).drew).front2
  have hwr : IntKind.i64.wrap ((safe : Int) + (m : Int)) = (safe : Int) + (m : Int) := IntWalk.i64_in _ (by omega)
  go_region_held3 (fun w' => ∀ i, w'.cell? ⟨lg, i, none⟩ = #[.slice A s.length c, ei safe][i]?) (first | go_keep | exact HC) (first | (go_at_call 190; refine (HA.out _ H1).mono ?_; rintro en w1 ⟨v, xs, rfl, hxs, H2⟩; rw [← HE.out]; have H3 := Own.front (rowA 247 2 v xs.length (frows xs) :: fsl xs ++ [X]) (by simpa using H2); have HC := H3.cell))
  have hf3 := H3.free
  have H4 := (H3.set 0 (.slice A e e)).set 1 (ei e)
  simp only [List.setIfInBounds_toArray, List.set_cons_succ, List.set_cons_zero] at H4
  go_wp2_with fail
  refine bodyPost_end (results_none rfl _ _ _) rfl ?_
  refine ⟨rfl, ?_⟩
  exact tear_fin H4
set_option maxRecDepth 100000 in
set_option maxHeartbeats 1000000 in
theorem diskTear {W w : World} {L : List Asn} (hF : Fours W) {d : Nat} {x : Dsk} (H : Own W w (dskA d x :: L)) (left : Int) (hl : x.safe ≤ x.b.length) (hs : x.b.length ≤ 16777216) :
    Calls Tryz.prog 49 #[ptr d, ei left] w fun e w' => e = .returned (.tuple #[]) ∧ Own W w' (dskA d (x.tear left) :: L) := by
  obtain ⟨lg, A, n, c, A2, n2, c2, H0⟩ := H.dsk_open
  have hn : n = x.b.length := by
    obtain ⟨_, A', c', e, _⟩ := H0.front3.byt_rd
    cases e; rfl
  subst hn
  have hn2 : n2 = x.st.length := by
    obtain ⟨_, A', c', e, _⟩ := H0.front4.sl_rd
    cases e; rfl
  subst hn2
  have hcd := H0.cell
  have hfd := H0.free
  have hcl := H0.front2.cell
  have hfl := H0.front2.free
  have hk : x.keep left = x.safe + (max 0 (min left ((x.b.length : Int) - x.safe))).toNat := rfl
  have hm : mxI 0 (mnI left ((x.b.length : Int) - x.safe)) = ((max 0 (min left ((x.b.length : Int) - x.safe))).toNat : Nat) := by rw [mxI_eq, mnI_eq]; omega
  have ht := fun (w : World) (h : Own W w (blk lg (.cells #[.slice A x.b.length c, ei x.safe] 124) :: slA 1 (.slice A x.b.length c) x.b.length (x.b.map byteV) :: blk d (.cells #[ptr lg, .slice A2 x.st.length c2, .bool x.has] 126) :: slA 1 (.slice A2 x.st.length c2) x.st.length (x.st.map byteV) :: L)) =>
    logTear hF (fun {w} {L} (h : Own W w (slA 1 (.slice A x.b.length c) x.b.length (x.b.map byteV) :: L)) => h.sl_rd) h left hl hs _ _ hm rfl
  have H1 := (H0.front3.byt_freeze).sel [2, 0, 1]
  have HT := Lib.hid (ht _ H1)
  have hle : lastNx (framesP (x.b.take (x.keep left)) 0) ≤ x.b.length := by
    have := lastNx_le (x.b.take (x.keep left))
    rw [List.length_take] at this; omega
  rw [← hk] at HT
  clear hm ht hk
  go_enter Tryz.func49, Tryz.ntmps49
  go_wp2_with (first | (go_at_call 82; go_in) | (go_at_call 135; refine HT.out.mono ?_; rintro e w1 ⟨rfl, H2⟩))
  refine bodyPost_end (results_none rfl _ _ _) rfl ?_
  refine ⟨rfl, ?_⟩
  have hw := Own.sl_window (l := 0) (h := lastNx (framesP (x.b.take (x.keep left)) 0)) H2.front2 (Nat.zero_le _) hle
  simp only [slP_zero, Nat.sub_zero, Nat.zero_mul, List.drop_zero, Nat.mul_one] at hw
  have hw2 := hw.sl_cap (Nat.le_refl _) (by unfold maxLen; omega)
  have hlen : (x.b.take (lastNx (framesP (x.b.take (x.keep left)) 0))).length = lastNx (framesP (x.b.take (x.keep left)) 0) := by rw [List.length_take]; omega
  refine Own.dsk_shut (x := x.tear left) (lg := lg) (vb := .slice A (lastNx (framesP (x.b.take (x.keep left)) 0)) (lastNx (framesP (x.b.take (x.keep left)) 0))) (vs := .slice A2 x.st.length c2) ?_
  refine Own.sel (L := bytA (.slice A (lastNx (framesP (x.b.take (x.keep left)) 0)) (lastNx (framesP (x.b.take (x.keep left)) 0))) (x.tear left).b :: _ :: _ :: _ :: L) ?_ [2, 1, 0, 3]
  have hf := Own.byt_full (A := A) (xs := (x.tear left).b) (W := W) (w := w1) (L := blk lg (.cells #[.slice A (lastNx (framesP (x.b.take (x.keep left)) 0)) (lastNx (framesP (x.b.take (x.keep left)) 0)), ei (lastNx (framesP (x.b.take (x.keep left)) 0))] 124) :: blk d (.cells #[ptr lg, .slice A2 x.st.length c2, .bool x.has] 126) :: slA 1 (.slice A2 x.st.length c2) x.st.length (x.st.map byteV) :: L)
  simp only [Dsk.tear, hlen, List.map_take] at hf
  simp only [Dsk.tear]
  exact hf hw2
end Sk
