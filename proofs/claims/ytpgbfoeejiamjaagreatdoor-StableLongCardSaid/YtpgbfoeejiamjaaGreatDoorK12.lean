/- Package stable: Recover, of a disk without a snapshot. -/
import Derived.Test.YtpgbfoeejiamjaaGreatDoorK11
import Derived.Test.YtpgbfoeejiamjaaGreatDoorProg
import Derived.Test.YtpgbfoeejiamjaaGreatDoorK07
import Derived.Shelf.SlMaps.Clone
import Derived.Test.YtpgbfoeejiamjaaGreatDoorK04
set_option linter.all false
set_option linter.unusedVariables false
set_option linter.unusedSimpArgs false
set_option linter.unusedSectionVars false
namespace Sk
open Go Go.RowKit Go.Proofs
theorem Own.drop6 {W w : World} {L : List Asn} {A B C D E F : Asn} (H : Own W w (A :: B :: C :: D :: E :: F :: L)) : Own W w (A :: B :: C :: D :: E :: L) := H.front6.drop
theorem Own.drop7 {W w : World} {L : List Asn} {A B C D E F G : Asn} (H : Own W w (A :: B :: C :: D :: E :: F :: G :: L)) : Own W w (A :: B :: C :: D :: E :: F :: L) := H.front7.drop
theorem Own.drop8 {W w : World} {L : List Asn} {A B C D E F G I : Asn} (H : Own W w (A :: B :: C :: D :: E :: F :: G :: I :: L)) : Own W w (A :: B :: C :: D :: E :: F :: G :: L) := H.front8.drop
theorem textV_len (x : Option (List UInt8)) : (textV x).length ≤ 65536 := by
  rcases x with _ | s
  · simp [textV]
  · rcases h : rdText s with _ | ⟨t, r⟩
    · rw [textV_bad h]; simp
    · rw [textV_good h]; exact (rdText_some h).1
theorem flow_value {x : Option (List UInt8)} {r : Rec} {y : Option (List UInt8)} (h : flow x = some (r, y)) : r.value.length ≤ 65536 := by
  unfold flow at h
  split at h
  · split at h
    · cases h; simp
    · cases h
  · split at h
    · split at h
      · cases h; exact textV_len _
      · cases h
    · split at h
      · split at h
        · cases h; exact textV_len _
        · cases h
      · cases h
theorem parseP_value {s : List UInt8} {r : Rec} (h : parseP s = some r) : r.value.length ≤ 65536 := by
  unfold parseP at h
  split at h
  · split at h
    · rename_i r' hf
      cases h
      exact flow_value hf
    · cases h
  · cases h
theorem recsP_snoc {a : Acc} {l : Log} {xs : List (List UInt8)} {s : List UInt8} {a' : Acc} {l' : Log} (h : recsP a l xs = some (a', l')) : recsP a l (xs ++ [s]) = recsP a' l' [s] := by
  induction xs generalizing a l with
  | nil => cases h; rfl
  | cons x xs ih =>
    simp only [recsP, List.cons_append] at h ⊢
    split at h
    · cases h
    · split at h
      · rename_i g
        simp only [g, if_true]
        exact ih h
      · cases h
theorem recsP_bad {a : Acc} {l : Log} {xs : List (List UInt8)} {s : List UInt8} {r : List (List UInt8)} {a' : Acc} {l' : Log} (h : recsP a l xs = some (a', l')) (h2 : recsP a' l' [s] = none) : recsP a l (xs ++ s :: r) = none := by
  induction xs generalizing a l with
  | nil =>
    cases h
    simp only [recsP, List.nil_append] at h2 ⊢
    split at h2
    · rfl
    · split at h2
      · cases h2
      · rename_i g; simp only [g, if_false]
  | cons x xs ih =>
    simp only [recsP, List.cons_append] at h ⊢
    split at h
    · cases h
    · split at h
      · rename_i g
        simp only [g, if_true]
        exact ih h
      · cases h
theorem recsP_one {a : Acc} {l : Log} {s : List UInt8} {x : Rec} (h : parseP s = some x) (h2 : (doP a l x).1 = 0) : recsP a l [s] = some ((doP a l x).2.1, (doP a l x).2.2) := by
  simp only [recsP, h, h2, if_true]
theorem recsP_one_err {a : Acc} {l : Log} {s : List UInt8} {x : Rec} (h : parseP s = some x) (h2 : (doP a l x).1 ≠ 0) : recsP a l [s] = none := by
  simp only [recsP, h, h2, if_false]
theorem recsP_one_bad {a : Acc} {l : Log} {s : List UInt8} (h : parseP s = none) : recsP a l [s] = none := by
  simp only [recsP, h]
theorem doP_ok {a : Acc} {l : Log} (ha : a.ok) (hl : l.ok) (r : Rec) : (doP a l r).2.1.ok := by
  unfold doP
  split
  · exact ha.promise _ _
  · split
    · exact ha.accept _ _ _
    · exact ha
theorem nextP_ct {s : List UInt8} {k : Nat} {ct : List UInt8} {nx : Nat} (h : nextP s k = some (ct, nx)) : ct.length ≤ 65536 := by
  unfold nextP at h
  split at h
  · cases h
  split at h
  · cases h
  split at h
  · cases h
    rename_i h2 _
    simp only [List.length_take, List.length_drop]; omega
  · cases h
theorem framesP_ct (s : List UInt8) : ∀ (n k : Nat), s.length - k ≤ n → ∀ x ∈ framesP s k, x.ct.length ≤ 65536 := by
  intro n
  induction n with
  | zero =>
    intro k h x hx
    have : nextP s k = none := by unfold nextP; rw [if_pos (by omega)]
    rw [framesP_none this] at hx; cases hx
  | succ n ih =>
    intro k h x hx
    rcases hn : nextP s k with _ | ⟨ct, nx⟩
    · rw [framesP_none hn] at hx; cases hx
    · have hg := nextP_gt hn
      rw [framesP_some hn] at hx
      rcases List.mem_cons.1 hx with rfl | hx
      · exact nextP_ct hn
      · exact ih nx (by omega) x hx
/-- The contents of the records. -/
def Dsk.recs (x : Dsk) : List (List UInt8) := (framesP x.b 0).map Frm.ct
def RcvPost (W : World) (L : List Asn) (o : Option (Acc × Log)) (e : Ending) (w : World) : Prop :=
  match o with
  | some (a, l) => ∃ pa pl, e = .returned (.tuple #[ptr pa, ptr pl, ei 0]) ∧ a.ok ∧ l.ok ∧ Own W w (accA pa a :: logA pl l :: L)
  | none => e = .returned (.tuple #[.pointer none, .pointer none, ei 10]) ∧ Own W w L
section
variable {W w : World} {L : List Asn}
set_option maxRecDepth 100000 in
set_option maxHeartbeats 4000000 in
theorem recover0 (hF : Fours W) {d : Nat} {x : Dsk} (H : Own W w (dskA d x :: L)) (hh : x.has = false) (hx : x.b.length ≤ 16777216) (hx2 : x.st.length ≤ 16777216) (n : Int) (h1 : 1 ≤ n) (h2 : n ≤ 7) :
    Calls Tryz.prog 28 #[ei n, ptr d] w (RcvPost W (dskA d x :: L) (recsP (Acc.new n) Log.new x.recs)) := by
  have H1 := (H.alloc (.cells #[ei n] 3))
  have hcb := H1.cell
  have hcp := Lib.hid (diskCopy H1.front2 hx hx2)
  go_enter Tryz.func28, Tryz.ntmps28
  go_wp2_with fail
  refine hcp.out.mono ?_
  rintro e w1 ⟨d', rfl, H2⟩
  have hcb2 := H2.front2.cell
  go_wp2_with fail
  refine (accNew H2 n h1 h2).mono ?_
  rintro e w2 ⟨pa, rfl, H3⟩
  go_wp2_with fail
  refine (logNew H3).mono ?_
  rintro e w3 ⟨pl, rfl, H4⟩
  have H5 := H4.alloc (.cells #[ptr pa, ptr pl] 133)
  go_wp2_with fail
  refine (diskSnapshot (H5.sel [3]) (by omega)).mono ?_
  rintro e w4 ⟨v, rfl, H6⟩
  rw [hh] at H6 ⊢
  obtain ⟨Av, cv, hvv, _⟩ := H6.sl_rd.form
  subst hvv
  go_wp2_with fail
  refine (diskRecords hF H6.front2 hx).mono ?_
  rintro e w5 ⟨v5, xs, rfl, hxs, H7⟩
  obtain ⟨A5, c5, rfl, _⟩ := H7.row_rd.form
  have H8 : Own W w5 (rowA 24 1 (.slice A5 xs.length c5) xs.length (xs.map Prod.snd) :: grp (fsl xs) :: blk w3.heap.size (.cells #[ptr pa, ptr pl] 133) :: accA pa (Acc.new n) :: logA pl Log.new :: dskA d x :: L) := (Own.sel H7 [0, 1, 4, 6, 5, 2]).drop7.drop7
  have hct : (xs.map fun y => y.1.ct) = x.recs := by unfold Dsk.recs; rw [← hxs, List.map_map]; rfl
  have hlen : xs.length ≤ 9223372036854775806 := by
    have := framesP_len x.b x.b.length 0 (by omega) (by omega)
    have e := congrArg List.length hxs
    simp only [List.length_map] at e; omega
  have hcl : ∀ (i : Nat) (fr : Frm), (xs[i]?).map Prod.fst = some fr → fr.ct.length ≤ 65536 := fun i fr h => framesP_ct x.b _ 0 (Nat.le_refl _) fr (by rw [← hxs]; rw [← List.getElem?_map] at h; exact List.mem_of_getElem? h)
  have HC := Lib.hid hct
  have HCL := Lib.hid hcl
  clear hct hxs hcb hcb2 hh hcl
  go_wp2_with fail
  go_loopw [45] (fun vi wr => ∃ (i : Nat) (a : Acc) (l : Log), vi = .int .i64 (i : Int) ∧ i ≤ xs.length ∧ a.ok ∧ l.ok ∧ recsP (Acc.new n) Log.new ((xs.map fun y => y.1.ct).take i) = some (a, l) ∧ Own W wr (rowA 24 1 (.slice A5 xs.length c5) xs.length (xs.map Prod.snd) :: grp (fsl xs) :: blk w3.heap.size (.cells #[ptr pa, ptr pl] 133) :: accA pa a :: logA pl l :: dskA d x :: L)) (fun vi _ => xs.length - intN vi)
  case atStart => exact ⟨0, _, _, rfl, by omega, Acc.new_ok h1 h2, Log.new_ok, rfl, H8⟩
  case round =>
    obtain ⟨i, a, l, rfl, hi, ha, hl, hrec, HH⟩ := hrel
    have hcs := HH.front3.cell
    have HA := Lib.hid ha
    have HL := Lib.hid hl
    have HR := Lib.hid hrec
    clear ha hl hrec
    by_cases hlt : i < xs.length
    · obtain ⟨y, hy⟩ : ∃ y, xs[i]? = some y := ⟨_, List.getElem?_eq_getElem hlt⟩
      have HG := Own.fsl_get hy HH.front2
      obtain ⟨hrl, A6, c6, he6, _, _, hel0⟩ := HH.row_rd
      cases he6
      obtain ⟨ad, rfl, hel⟩ := hel0 (by omega)
      have hcell := hel i y.2 (by rw [List.getElem?_map, hy]; rfl)
      obtain ⟨fr, cv⟩ := y
      obtain ⟨A7, c7, hcv, _⟩ := HG.sl_rd.form
      obtain ⟨nn, hnn⟩ : ∃ nn, nn = fr.ct.length := ⟨_, rfl⟩
      simp only at hcv
      rw [← hnn] at hcv
      subst hcv
      subst hnn
      have hlen2 : fr.ct.length ≤ 140737488355328 := by have := HCL.out i fr (by rw [hy]; rfl); omega
      have hpa := Lib.hid (parseC HH HG.sl_rd hlen2)
      have hat : (xs.map fun y => y.1.ct)[i]? = some fr.ct := by rw [List.getElem?_map, hy]; rfl
      have HY := Lib.hid hat
      simp only at hcell
      clear hel hel0 hrl hy hat
      go_wp2_with fail
      refine hpa.out.mono ?_
      rintro e w6 ⟨rfl, H9⟩
      rcases hpp : parseP fr.ct with _ | r
      · have HP := Lib.hid hpp
        have hcs2 := H9.front3.cell
        simp only [parseV, Rec.zero, Rec.v]
        clear hpp
        go_wp2_with fail
        refine bodyPost_ret (v := .tuple #[.pointer none, .pointer none, ei 10]) (by simp [results, Tryz.results28, go_sem]) rfl ?_
        have hb := recsP_bad (r := (xs.map fun y => y.1.ct).drop (i + 1)) HR.out (recsP_one_bad HP.out)
        rw [← split_at HY.out, HC.out] at hb
        rw [hb]
        exact ⟨rfl, (H9.skip _).drop.drop.drop.drop.drop⟩
      · have HP := Lib.hid hpp
        have hcs2 := H9.front3.cell
        have hlt6 := H9.front3.lt
        have H10 := (H9.skip (.cells #[ei r.kind, ei r.b.r, ei r.b.n, ei r.slot, .string ⟨r.value.toArray⟩] 113)).sel [3, 4]
        have hdo := doC H10 HA.out HL.out r (by have := parseP_value hpp; omega)
        obtain ⟨er, a', l', hd⟩ : ∃ er a' l', doP a l r = (er, a', l') := ⟨_, _, _, rfl⟩
        rw [hd] at hdo
        have hok := doP_ok HA.out HL.out r
        rw [hd] at hok
        have HO := Lib.hid hok
        have HD := Lib.hid hd
        simp only [parseV]
        rw [Rec.v] at hdo ⊢
        have HDO := Lib.hid hdo
        clear hpp hdo hok hd
        by_cases her : er = 0
        · subst her
          go_wp2_with (go_at_call 93; refine HDO.out.mono ?_; rintro e w7 ⟨rfl, hlo, H11⟩)
          have hone := recsP_one HP.out (by rw [HD.out])
          rw [HD.out] at hone
          refine ⟨⟨i + 1, a', l', rfl, hlt, HO.out, hlo, ?_, H11.sel [2, 3, 4, 0, 1]⟩, by simp only [intN]; omega⟩
          rw [List.take_add_one, HY.out, Option.toList_some, recsP_snoc HR.out]
          exact hone
        · have hq : (er != 0) = true := by simpa using her
          go_wp2_with (go_at_call 93; refine HDO.out.mono ?_; rintro e w7 ⟨rfl, hlo, H11⟩)
          refine bodyPost_ret (v := .tuple #[.pointer none, .pointer none, ei 10]) (by simp [results, Tryz.results28, go_sem]) rfl ?_
          have hb := recsP_bad (r := (xs.map fun y => y.1.ct).drop (i + 1)) HR.out (recsP_one_err HP.out (by rw [HD.out]; exact her))
          rw [← split_at HY.out, HC.out] at hb
          rw [hb]
          exact ⟨rfl, H11.drop.drop.drop.drop.drop⟩
    · have : i = xs.length := by omega
      subst this
      go_wp2_with fail
      go_quiet (fail)
      go_wp2_with fail
      refine bodyPost_ret (v := .tuple #[ptr pa, ptr pl, ei 0]) (by simp [results, Tryz.results28, go_sem]) rfl ?_
      have hr := HR.out
      rw [List.take_of_length_le (by simp), HC.out] at hr
      rw [hr]
      exact ⟨pa, pl, rfl, HA.out, HL.out, (HH.sel [3, 4, 5]).drewN _ |>.drop4.drop4.drop4⟩
end
end Sk
/- Frames that were written are found again: plain. -/
namespace Sk
open Go Go.RowKit
/-- The bytes of a record. -/
def frm (s : List UInt8) : List UInt8 := four s.length ++ four (crcP s) ++ s
theorem four_len (n : Nat) : (four n).length = 4 := rfl
theorem frm_len (s : List UInt8) : (frm s).length = 8 + s.length := by simp [frm, four_len]; omega
theorem num4_four (n : Nat) (h : n < 4294967296) (r : List UInt8) : num4 (four n ++ r) = n := by
  have : (four n ++ r).take 4 = four n := List.take_left' (four_len n)
  unfold num4
  rw [this]
  simp only [four, List.foldl_cons, List.foldl_nil, UInt8.toNat_ofNat', Nat.reducePow]
  omega
theorem nextP_frm {pre s post : List UInt8} (h : s.length ≤ 65536) : nextP (pre ++ frm s ++ post) pre.length = some (s, pre.length + 8 + s.length) := by
  have hd : (pre ++ frm s ++ post).drop pre.length = frm s ++ post := by rw [List.append_assoc, List.drop_left]
  have hl : (pre ++ frm s ++ post).length = pre.length + (8 + s.length) + post.length := by rw [List.length_append, List.length_append, frm_len]
  have h1 : num4 ((pre ++ frm s ++ post).drop pre.length) = s.length := by
    rw [hd]; simp only [frm, List.append_assoc]; exact num4_four _ (by omega) _
  have h2 : num4 ((pre ++ frm s ++ post).drop (pre.length + 4)) = crcP s := by
    rw [← List.drop_drop, hd]
    simp only [frm, List.append_assoc]
    rw [List.drop_left' (four_len _)]
    exact num4_four _ (crcP_lt s) _
  have h3 : ((pre ++ frm s ++ post).drop (pre.length + 8)).take s.length = s := by
    rw [← List.drop_drop, hd]
    simp only [frm]
    rw [List.append_assoc, List.drop_left' (by simp [four_len])]
    exact List.take_left' rfl
  unfold nextP
  rw [if_neg (by omega), h1, if_neg (by omega), h3, h2, if_pos rfl]
theorem framesP_frms : ∀ (ss : List (List UInt8)) (pre : List UInt8), (∀ s ∈ ss, s.length ≤ 65536) → (framesP (pre ++ (ss.map frm).flatten) pre.length).map Frm.ct = ss ∧ lastNx (framesP (pre ++ (ss.map frm).flatten) pre.length) = (if ss = [] then 0 else (pre ++ (ss.map frm).flatten).length)
  | [], pre, _ => by
    have : nextP (pre ++ ([] : List (List UInt8)).flatten) pre.length = none := by unfold nextP; rw [if_pos (by simp)]
    simp only [List.map_nil] at *
    rw [framesP_none this]
    exact ⟨rfl, rfl⟩
  | s :: ss, pre, h => by
    have hn := nextP_frm (pre := pre) (post := (ss.map frm).flatten) (h s (by simp))
    have e : pre ++ ((s :: ss).map frm).flatten = pre ++ frm s ++ (ss.map frm).flatten := by simp
    rw [e, framesP_some hn]
    have hl : pre.length + 8 + s.length = (pre ++ frm s).length := by rw [List.length_append, frm_len]; omega
    rw [hl]
    obtain ⟨h1, h2⟩ := framesP_frms ss (pre ++ frm s) (fun t ht => h t (by simp [ht]))
    refine ⟨by rw [List.map_cons, h1], ?_⟩
    rcases hss : framesP (pre ++ frm s ++ (ss.map frm).flatten) (pre ++ frm s).length with _ | ⟨f, fs⟩
    · have : ss = [] := by rw [hss] at h1; exact h1.symm
      subst this
      simp [lastNx]
    · have hne : ss ≠ [] := by rw [hss] at h1; rw [← h1]; simp
      rw [hss, if_neg hne] at h2
      rw [if_neg (by simp)]
      simpa [lastNx] using h2
/-- A log of whole records. -/
def Dsk.whole (x : Dsk) (ss : List (List UInt8)) : Prop := x.b = (ss.map frm).flatten ∧ ∀ s ∈ ss, s.length ≤ 65536
theorem Dsk.whole.recs {x : Dsk} {ss : List (List UInt8)} (h : x.whole ss) : x.recs = ss := by
  have := (framesP_frms ss [] h.2).1
  rw [List.nil_append] at this
  unfold Dsk.recs
  rw [h.1]
  exact this
theorem makeP_frm {s : List UInt8} (h : s.length ≤ 65536) : makeP s = (0, frm s) := makeP_yes h
theorem whole_append {x : Dsk} {ss : List (List UInt8)} {s : List UInt8} (h : x.whole ss) (hs : s.length ≤ 65536) (hf : x.b.length + 8 + s.length ≤ 16777216) :
    x.append s = (0, { x with b := x.b ++ frm s }) ∧ Dsk.whole { x with b := x.b ++ frm s } (ss ++ [s]) := by
  refine ⟨append_ok (makeP_frm hs) (by rw [frm_len]; omega), ?_, fun t ht => ?_⟩
  · show x.b ++ frm s = _
    rw [h.1]; simp
  · rcases List.mem_append.1 ht with ht | ht
    · exact h.2 t ht
    · simp at ht; subst ht; exact hs
theorem whole_write {x : Dsk} {ss : List (List UInt8)} {s : List UInt8} (h : x.whole ss) (hs : s.length ≤ 65536) (hf : x.b.length + 8 + s.length ≤ 16777216) :
    x.write s = (0, { x with b := x.b ++ frm s, safe := (x.b ++ frm s).length }) ∧ Dsk.whole { x with b := x.b ++ frm s, safe := (x.b ++ frm s).length } (ss ++ [s]) := by
  obtain ⟨h1, h2⟩ := whole_append h hs hf
  refine ⟨?_, h2⟩
  unfold Dsk.write
  rw [h1]
  rfl
/-- A list of entries is determined by what it says. -/
theorem Rep.eq {α : Type} {f : Int → Option α} : ∀ {l l' : List (Int × α)}, Rep f l → Rep f l' → l = l' := by
  have key : ∀ (l l' : List (Int × α)), l.Pairwise (fun a b => a.1 < b.1) → l'.Pairwise (fun a b => a.1 < b.1) → (∀ y, y ∈ l ↔ y ∈ l') → l = l' := by
    intro l
    induction l with
    | nil =>
      intro l' _ _ h
      cases l' with
      | nil => rfl
      | cons y l' => exact absurd ((h y).2 (by simp)) (by simp)
    | cons a l ih =>
      intro l' hl hl' h
      cases l' with
      | nil => exact absurd ((h a).1 (by simp)) (by simp)
      | cons b l' =>
        rw [List.pairwise_cons] at hl hl'
        have hab : a = b := by
          rcases List.mem_cons.1 ((h a).1 (by simp)) with e | ha
          · exact e
          · rcases List.mem_cons.1 ((h b).2 (by simp)) with e | hb
            · exact e.symm
            · have := hl.1 b hb; have := hl'.1 a ha; omega
        subst hab
        rw [ih l' hl.2 hl'.2]
        intro y
        have hy := h y
        simp only [List.mem_cons] at hy
        constructor
        · intro hm
          rcases hy.1 (.inr hm) with e | h2
          · have := hl.1 y hm; rw [e] at this; omega
          · exact h2
        · intro hm
          rcases hy.2 (.inr hm) with e | h2
          · have := hl'.1 y hm; rw [e] at this; omega
          · exact h2
  intro l l' h h'
  exact key l l' h.up h'.up fun ⟨k, x⟩ => by rw [h.all, h'.all]
end Sk
/- maps.Clone; Package accept: Copy. -/
namespace Sk
open Go Go.RowKit Go.Proofs
section
variable {W w : World} {L : List Asn} {b : Nat} {s : Acc}
set_option maxRecDepth 100000 in
set_option maxHeartbeats 1000000 in
theorem cloneBlk {es : Array MapEntry} {ck m : Nat} (hb : w.heap[m]? = some (.map es ck)) : Calls Tryz.prog 145 #[.map (some m)] w fun e w' => e = .returned (.map (some w.heap.size)) ∧ w.alloc (.map es ck) = w' := by
  have hq := fun w => run_eql_map_nil_sl (P := Tryz.prog) w 156 _ _ (some m) Tryz.underlying156
  have hcl := fun (w : World) (hb : w.heap[m]? = some (.map es ck)) => run_maps_clone_sl (P := Tryz.prog) w 156 hb
  have hta := fun (w : World) (v : Value) => run_typeAssert_map_sl (P := Tryz.prog) w 156 20 _ _ v Tryz.underlying156
  go_enter Tryz.func145, Tryz.ntmps145
  go_wp2
  rw [run_callFunc_extern Tryz.func199 (by kernel_rfl) (by kernel_rfl) (by kernel_rfl) (e := Extern.MapsClone.clone) (by kernel_rfl), hcl w hb]
  simp only [Result.andThen]
  rw [Oper.upon_value]
  go_wp2
  go_ret
  exact ⟨rfl, rfl⟩
set_option maxRecDepth 100000 in
set_option maxHeartbeats 1000000 in
theorem accCopy (H : Own W w (accA b s :: L)) (hn : 0 < s.n) : Calls Tryz.prog 58 #[ptr b] w fun e w' => (∃ b', e = .returned (ptr b') ∧ Own W w' (accA b' s :: accA b s :: L)) := by
  obtain ⟨m, H0⟩ := H.acc_open
  have hc := H0.cell
  have hlt := H0.lt
  obtain ⟨es, ck, M, g, H1⟩ := H0.front2.map_open
  have H2 := (H1.alloc (accCells s m)).sel [1, 0, 2]
  have hcl := cloneBlk H2.has
  have H4 := (((H1.alloc (accCells s (w.heap.size + 1))).alloc (.map es ck)).sel [1, 0, 3, 2])
  rw [World.size_alloc] at H4
  have HC := Lib.hid hcl
  clear hcl
  go_enter Tryz.func58, Tryz.ntmps58
  go_wp2_with (first | (go_at_call 116; go_in) | (go_at_call 145; refine HC.out.mono ?_; rintro e w' ⟨rfl, rfl⟩))
  go_ret
  refine ⟨_, rfl, ?_⟩
  have H5 := Own.acc_shut (Own.front2 (Own.map_shut H4.front2 M g))
  exact (Own.acc_shut ((Own.map_shut (H5.sel [2, 1, 0]) M g).sel [1, 0])).sel [1, 0]
end
end Sk
/- Package slots: Copy. -/
namespace Sk
open Go Go.RowKit Go.Proofs
attribute [local go_sem] neqMapS
section
variable {W w : World} {L : List Asn} {b : Nat} {s : Log}
set_option maxRecDepth 100000 in
set_option maxHeartbeats 1000000 in
theorem cloneBlkS {es : Array MapEntry} {ck m : Nat} (hb : w.heap[m]? = some (.map es ck)) : Calls Tryz.prog 146 #[.map (some m)] w fun e w' => e = .returned (.map (some w.heap.size)) ∧ w.alloc (.map es ck) = w' := by
  have hq := fun w => run_eql_map_nil_sl (P := Tryz.prog) w 161 _ _ (some m) Tryz.underlying161
  have hcl := fun (w : World) (hb : w.heap[m]? = some (.map es ck)) => run_maps_clone_sl (P := Tryz.prog) w 161 hb
  have hta := fun (w : World) (v : Value) => run_typeAssert_map_sl (P := Tryz.prog) w 161 20 _ _ v Tryz.underlying161
  go_enter Tryz.func146, Tryz.ntmps146
  go_wp2
  rw [run_callFunc_extern Tryz.func199 (by kernel_rfl) (by kernel_rfl) (by kernel_rfl) (e := Extern.MapsClone.clone) (by kernel_rfl), hcl w hb]
  simp only [Result.andThen]
  rw [Oper.upon_value]
  go_wp2
  go_ret
  exact ⟨rfl, rfl⟩
set_option maxRecDepth 100000 in
set_option maxHeartbeats 1000000 in
theorem logCopy (H : Own W w (logA b s :: L)) : Calls Tryz.prog 59 #[ptr b] w fun e w' => (∃ b', e = .returned (ptr b') ∧ Own W w' (logA b' s :: logA b s :: L)) := by
  obtain ⟨m, H0⟩ := H.log_open
  have hc := H0.cell
  have hlt := H0.lt
  obtain ⟨es, ck, M, g, H1⟩ := H0.front2.map_open
  have H2 := (H1.alloc (logC m s.base s.upto s.top)).sel [1, 0, 2]
  have hcl := cloneBlkS H2.has
  have H4 := (((H1.alloc (logC (w.heap.size + 1) s.base s.upto s.top)).alloc (.map es ck)).sel [1, 0, 3, 2])
  rw [World.size_alloc] at H4
  have HC := Lib.hid hcl
  clear hcl
  go_enter Tryz.func59, Tryz.ntmps59
  go_wp2_with (first | (go_at_call 122; go_in) | (go_at_call 146; refine HC.out.mono ?_; rintro e w' ⟨rfl, rfl⟩))
  go_ret
  refine ⟨_, rfl, ?_⟩
  have H5 := Own.log_shut (Own.front2 (Own.map_shut H4.front2 M g))
  exact (Own.log_shut ((Own.map_shut (H5.sel [2, 1, 0]) M g).sel [1, 0])).sel [1, 0]
end
end Sk
