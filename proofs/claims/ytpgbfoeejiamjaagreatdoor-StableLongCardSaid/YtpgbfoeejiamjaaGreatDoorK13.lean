/- Package stable: Compact. -/
import Derived.Test.YtpgbfoeejiamjaaGreatDoorK12
import Derived.Deep.DeepCutAuto
import Derived.Deep.CutBlock
import Derived.Test.YtpgbfoeejiamjaaGreatDoorProg
import Derived.KernelRfl
import Derived.Test.YtpgbfoeejiamjaaGreatDoorK08
import Derived.Test.YtpgbfoeejiamjaaGreatDoorK07
set_option linter.all false
set_option linter.unusedVariables false
set_option linter.unusedSimpArgs false
set_option linter.unusedSectionVars false
namespace Sk
open Go Go.RowKit Go.Proofs
attribute [local go_sem ↓] append_hide
/-- The bytes of an entry, and of a value. -/
def entB (x : Int × Bal × Str) : List UInt8 := encL [x.1, x.2.1.r, x.2.1.n] ++ encU x.2.2.size ++ x.2.2.data.toList
def atB (x : Int × Bs) : List UInt8 := encL [x.1] ++ encU x.2.size ++ x.2.data.toList
/-- The bytes of an acceptor and a log. -/
def snapB (a : Acc) (l : Log) (es : List (Int × Bal × Str)) (vs : List (Int × Bs)) : List UInt8 :=
  encL [a.prom.r, a.prom.n, a.base, es.length] ++ es.flatMap entB ++ encL [l.base, vs.length] ++ vs.flatMap atB
theorem rep_from0 {α : Type} {f : Int → Option α} {es : List (Int × α)} (h0 : ∀ k, f k ≠ none → 0 ≤ k) (h : Rep (fromF f 0) es) : Rep f es := by
  have e : fromF f 0 = f := funext fun k => by
    unfold fromF
    split
    · rfl
    · rename_i hk
      cases hf : f k with
      | none => rfl
      | some x => exact absurd (h0 k (by rw [hf]; simp)) hk
  rw [e] at h; exact h
theorem rep_len {α : Type} {f : Int → Option α} {es : List (Int × α)} (h0 : ∀ k x, f k = some x → 0 ≤ k ∧ k < 4096) (h : Rep f es) : es.length ≤ 4096 := by
  have := nodup_bound 4096 (es.map (·.1)) (by rw [List.nodup_iff_pairwise_ne, List.pairwise_map]; exact h.up.imp (fun h => by omega)) (fun k hk => by
    obtain ⟨y, hy, rfl⟩ := List.mem_map.1 hk
    exact h0 y.1 y.2 ((h.all y.1 y.2).1 hy))
  simpa using this
theorem entC_at {es : List (Int × Bal × Str)} {i : Nat} {y : Int × Bal × Str} (h : es[i]? = some y) : (entC es)[i * 4]? = some (ei y.1) ∧ (entC es)[i * 4 + 1]? = some (ei y.2.1.r) ∧ (entC es)[i * 4 + 2]? = some (ei y.2.1.n) ∧ (entC es)[i * 4 + 3]? = some (.string y.2.2) := by
  induction es generalizing i with
  | nil => simp at h
  | cons z es ih =>
    rcases i with _ | i
    · simp at h; subst h; simp [entC]
    · have := ih (i := i) (by simpa using h)
      have e1 : (i + 1) * 4 = i * 4 + 4 := by omega
      simp only [entC, List.flatMap_cons] at this ⊢
      rw [e1]
      exact this
set_option maxRecDepth 100000 in
theorem encU_len10 (n : Nat) (h : n ≤ 65536) : (encU n).length ≤ 10 := by
  have := encN_len 9 n (by omega)
  simpa [encU] using this
set_option maxRecDepth 100000 in
theorem entB_len (y : Int × Bal × Str) (h : y.2.2.size ≤ 65536) : (entB y).length ≤ 65576 := by
  have h1 := encL_len [y.1, y.2.1.r, y.2.1.n]
  have h2 := encU_len10 y.2.2.size h
  simp only [entB, List.length_append, List.length_cons, List.length_nil] at h1 ⊢
  have h3 : y.2.2.data.toList.length = y.2.2.size := Array.length_toList
  omega
theorem flat_len {α : Type} {f : α → List UInt8} {c : Nat} : ∀ {l : List α}, (∀ y ∈ l, (f y).length ≤ c) → (l.flatMap f).length ≤ l.length * c
  | [], _ => by simp
  | y :: l, h => by
    have h1 := h y (by simp)
    have h2 := flat_len (l := l) (fun z hz => h z (by simp [hz]))
    simp only [List.flatMap_cons, List.length_append, List.length_cons, Nat.add_mul]
    omega
set_option maxRecDepth 100000 in
theorem entB_lens {es : List (Int × Bal × Str)} (h : ∀ y ∈ es, y.2.2.size ≤ 65536) (i : Nat) : ((es.take i).flatMap entB).length ≤ i * 65576 := by
  have := flat_len (f := entB) (c := 65576) (l := es.take i) (fun y hy => entB_len y (h y (List.mem_of_mem_take hy)))
  have h2 : (es.take i).length * 65576 ≤ i * 65576 := Nat.mul_le_mul_right _ (List.length_take_le _ _)
  exact Nat.le_trans this h2
/-- Values at slots. -/
def valsOf (l : Log) (hs : List Int) : List (Int × Bs) := hs.map fun k => (k, (l.val k).getD ⟨#[]⟩)
theorem valsOf_take {l : Log} {hs : List Int} {i : Nat} {k : Int} {v : Bs} (h : hs[i]? = some k) (hv : l.val k = some v) : (valsOf l (hs.take (i + 1))).flatMap atB = (valsOf l (hs.take i)).flatMap atB ++ atB (k, v) := by
  rw [List.take_add_one, h]
  simp [valsOf, hv]
set_option maxRecDepth 100000 in
theorem atB_len (y : Int × Bs) (h : y.2.size ≤ 65536) : (atB y).length ≤ 65576 := by
  have h1 := encL_len [y.1]
  have h2 := encU_len10 y.2.size h
  simp only [atB, List.length_append, List.length_cons, List.length_nil] at h1 ⊢
  have h3 : y.2.data.toList.length = y.2.size := Array.length_toList
  omega
set_option maxRecDepth 100000 in
theorem atB_lens {l : Log} {hs : List Int} (h : ∀ k v, l.val k = some v → v.size ≤ 65536) (i : Nat) : ((valsOf l (hs.take i)).flatMap atB).length ≤ i * 65576 := by
  have := flat_len (f := atB) (c := 65576) (l := valsOf l (hs.take i)) (fun y hy => by
    obtain ⟨k, hk, rfl⟩ := List.mem_map.1 hy
    refine atB_len _ ?_
    show ((l.val k).getD ⟨#[]⟩).size ≤ 65536
    cases hv : l.val k with
    | none => exact Nat.zero_le _
    | some v => exact h k v hv)
  have h2 : (valsOf l (hs.take i)).length * 65576 ≤ i * 65576 := Nat.mul_le_mul_right _ (by rw [valsOf, List.length_map]; exact List.length_take_le _ _)
  exact Nat.le_trans this h2
theorem valsOf_rep {l : Log} {hs : List Int} (h : hs.Pairwise (· < ·)) (hm : ∀ k, k ∈ hs ↔ l.val k ≠ none) : Rep l.val (valsOf l hs) := by
  constructor
  · unfold valsOf; rw [List.pairwise_map]; exact h
  · intro k x
    unfold valsOf
    simp only [List.mem_map, Prod.mk.injEq, hm]
    constructor
    · rintro ⟨k', h1, rfl, rfl⟩
      cases hf : l.val k' with
      | none => exact absurd hf h1
      | some y => simp
    · intro hx
      exact ⟨k, by rw [hx]; simp, rfl, by rw [hx]; rfl⟩
section
variable {W w : World} {L : List Asn}
/-- What stands while the numbers of the log are written. -/
def CmT (W : World) (M : List Asn) (g bw pl : Nat) (l : Log) (hs : List Int) (v : Value) (B : List UInt8) (w : World) : Prop := Own W w (blk g (.cells #[ptr bw] 101) :: wrA bw B :: logA pl l :: rowA 3 1 v hs.length (hs.map ik) :: M)
theorem CmT.all {M : List Asn} {g bw pl : Nat} {l : Log} {hs : List Int} {v : Value} {B : List UInt8} (h : CmT W M g bw pl l hs v B w) : CmT W M g bw pl l hs v B w ∧ ∀ i, w.cell? ⟨g, i, none⟩ = #[ptr bw][i]? := ⟨h, Own.cell h⟩
theorem CmT.log {M : List Asn} {g bw pl : Nat} {l : Log} {hs : List Int} {v : Value} {B : List UInt8} (h : CmT W M g bw pl l hs v B w) : Own W w (logA pl l :: blk g (.cells #[ptr bw] 101) :: wrA bw B :: rowA 3 1 v hs.length (hs.map ik) :: M) := Own.front3 h
theorem CmT.lits {M : List Asn} {g bw pl : Nat} {l : Log} {hs : List Int} {v : Value} {B : List UInt8} (h : CmT W M g bw pl l hs v B w) {p q : Int} : Own W (w.alloc (.cells #[ei p, ei q] 3)).drew (slA 1 (.slice (some ⟨w.heap.size, 0, none⟩) 2 2) [p, q].length ([p, q].map ei) :: wrA bw B :: blk g (.cells #[ptr bw] 101) :: logA pl l :: rowA 3 1 v hs.length (hs.map ik) :: M) :=
  ((Own.lits (l := [p, q]) 3 (Own.alloc h _) rfl (by simp)).sel [0, 2]).drew
/-- What stands while the writer is made. -/
def CmS (W : World) (M : List Asn) (tb : Nat) (r n : Int) (w : World) : Prop := Own W w (blk tb (.cells #[ei r, ei n] 23) :: M)
theorem CmS.all {M : List Asn} {tb : Nat} {r n : Int} (h : CmS W M tb r n w) : CmS W M tb r n w ∧ ∀ i, w.cell? ⟨tb, i, none⟩ = #[ei r, ei n][i]? := ⟨h, Own.cell h⟩
theorem CmS.alloc {M : List Asn} {tb : Nat} {r n : Int} {p : Prop} (h : CmS W M tb r n w ∧ p) (o : Obj) : CmS W M tb r n (w.alloc o) := Own.skip h.1 o
theorem CmS.fwd {M : List Asn} {tb : Nat} {r n : Int} {A : Asn} (h : Own W w (A :: blk tb (.cells #[ei r, ei n] 23) :: M)) : CmS W M tb r n w := Own.drop h
theorem CmS.fwd2 {M : List Asn} {tb : Nat} {r n : Int} {A B : Asn} (h : Own W w (A :: B :: blk tb (.cells #[ei r, ei n] 23) :: M)) : CmS W M tb r n w := Own.drop (Own.drop h)
theorem CmS.nwA {M : List Asn} {tb : Nat} {r n b k : Int} (h : CmS W M tb r n w) : Own W (w.alloc (.cells #[ei r, ei n, ei b, ei k] 3)).drew (slA 1 (.slice (some ⟨w.heap.size, 0, none⟩) 4 4) [r, n, b, k].length ([r, n, b, k].map ei) :: blk tb (.cells #[ei r, ei n] 23) :: M) :=
  (Own.lits (l := [r, n, b, k]) 3 (Own.alloc h _) rfl (by simp)).drew
theorem CmS.nwB {M : List Asn} {tb : Nat} {r n b k : Int} (h : CmS W M tb r n w) (o : Obj) : Own W ((w.alloc (.cells #[ei r, ei n, ei b, ei k] 3)).alloc o).drew (slA 1 (.slice (some ⟨w.heap.size, 0, none⟩) 4 4) [r, n, b, k].length ([r, n, b, k].map ei) :: blk (w.heap.size + 1) o :: blk tb (.cells #[ei r, ei n] 23) :: M) := by
  have h1 := (Own.lits (l := [r, n, b, k]) 3 (Own.alloc h (.cells #[ei r, ei n, ei b, ei k] 3)) rfl (by simp)).alloc o
  rw [World.size_alloc] at h1
  exact h1.front2.drew
theorem CmS.nwC {M : List Asn} {tb : Nat} {r n b k : Int} (h : CmS W M tb r n w) (o : Obj) : Own W ((w.alloc o).alloc (.cells #[ei r, ei n, ei b, ei k] 3)).drew (slA 1 (.slice (some ⟨w.heap.size + 1, 0, none⟩) 4 4) [r, n, b, k].length ([r, n, b, k].map ei) :: blk w.heap.size o :: blk tb (.cells #[ei r, ei n] 23) :: M) := by
  have h1 := Own.lits (l := [r, n, b, k]) 3 ((Own.alloc h o).alloc (.cells #[ei r, ei n, ei b, ei k] 3)) rfl (by simp)
  rw [World.size_alloc] at h1
  exact h1.drew
theorem CmS.acc {M : List Asn} {tb : Nat} {r n : Int} (h : CmS W M tb r n w) : Own W w M := Own.drop h
def CompPost (W : World) (L : List Asn) (d pa pl : Nat) (x : Dsk) (a : Acc) (l : Log) (e : Ending) (w : World) : Prop :=
  ∃ es vs, Rep a.ent es ∧ Rep l.val vs ∧ e = .returned (ei (x.save (snapB a l es vs)).1) ∧ Own W w (dskA d (x.save (snapB a l es vs)).2 :: accA pa a :: logA pl l :: L)
set_option maxRecDepth 100000 in
set_option maxHeartbeats 8000000 in
theorem compactC {d pa pl : Nat} {x : Dsk} {a : Acc} {l : Log} (H : Own W w (dskA d x :: accA pa a :: logA pl l :: L)) (ha : a.ok) (hl : l.ok) (hx : x.b.length ≤ 16777216) (hx2 : x.st.length ≤ 16777216) :
    Calls Tryz.prog 45 #[ptr d, ptr pa, ptr pl] w (CompPost W L d pa pl x a l) := by
  have hn : 0 < a.n := by have := ha.n1; omega
  have hcp := Lib.hid (diskCopy H hx hx2)
  have HA := Lib.hid ha
  have HL := Lib.hid hl
  clear ha hl
  go_enter Tryz.func45, Tryz.ntmps45
  go_wp2_with fail
  refine hcp.out.mono ?_
  rintro e w1 ⟨d', rfl, H1⟩
  go_wp2_with fail
  refine (accCopy H1.front2 hn).mono ?_
  rintro e w2 ⟨pa', rfl, H2⟩
  go_wp2_with fail
  refine (logCopy (H2.sel [3, 1, 2])).mono ?_
  rintro e w3 ⟨pl', rfl, H3⟩
  have H4 := (H3.sel [1, 2, 3]).drop4.drop4
  clear H1 H2 H3
  go_wp2_with fail
  refine (accPromised H4.front2 hn).mono ?_
  rintro e w4 ⟨rfl, H5⟩
  go_wp2_with fail
  refine (accList H5 hn 0 HA.out.slot).mono ?_
  rintro e w5 ⟨v, es, rfl, hrep, H6⟩
  obtain ⟨A5, c5, rfl, _⟩ := H6.row_rd.form
  go_upto_region 4 with fail
  have H7 := H6.alloc (.cells #[ei a.prom.r, ei a.prom.n] 23)
  generalize w5.alloc (.cells #[ei a.prom.r, ei a.prom.n] 23) = w6 at H7 ⊢
  generalize w5.heap.size = tb at H7 ⊢
  have HS : CmS W (rowA 92 4 (.slice A5 es.length c5) es.length (entC es) :: accA pa a :: logA pl l :: dskA d x :: L) tb a.prom.r a.prom.n w6 := H7
  have HRP := Lib.hid hrep
  clear hrep H4 H5 H6
  go_cut [9] (fun s9 wx => ∃ g bw, s9 = ptr g ∧ Own W wx (blk g (.cells #[ptr bw] 101) :: wrA bw (encL [a.prom.r, a.prom.n, a.base, es.length]) :: rowA 92 4 (.slice A5 es.length c5) es.length (entC es) :: accA pa a :: logA pl l :: dskA d x :: L))
  case first =>
    go_region_held3 (fun w' => CmS W (rowA 92 4 (.slice A5 es.length c5) es.length (entC es) :: accA pa a :: logA pl l :: dskA d x :: L) tb a.prom.r a.prom.n w' ∧ ∀ i, w'.cell? ⟨tb, i, none⟩ = #[ei a.prom.r, ei a.prom.n][i]?) (first | exact CmS.all (Own.drew HS) | exact CmS.all (CmS.fwd Hz) | exact CmS.all (CmS.fwd2 Hz) | exact CmS.all (by assumption) | exact CmS.all (CmS.alloc (by assumption) _) | exact CmS.all (Own.drew (Own.skip HS _)) | exact CmS.all (Own.skip (CmS.fwd Hz) _) | exact CmS.all (CmS.fwd2 (Own.set (Own.front2 Hz) 0 _))) (first | (go_at_call 102; refine (accBase (CmS.acc (r := a.prom.r) (n := a.prom.n) (tb := tb) (by first | exact Own.drew HS | exact Own.drew (Own.skip HS _))).front2 hn).mono ?_; rintro e w' ⟨rfl, rfl⟩) | (go_at_call 66; refine (newWriterC (l := [a.prom.r, a.prom.n, a.base, es.length]) (by first | exact CmS.nwA HS | exact CmS.nwB HS _ | exact CmS.nwC HS _) (by simp)).mono ?_; rintro e wz ⟨bw, rfl, Hz⟩; (try have hz1 := (Own.front2 Hz).cell); (try have hz2 := (Own.front2 Hz).free)))
    all_goals (go_wp2_with fail; go_meet; exact ⟨_, _, rfl, by first | exact (Own.drop3 (Own.alloc Hz _)) | exact (Own.drop3 (Own.set (Own.front2 Hz) 0 _))⟩)
  case rest =>
    obtain ⟨g, bw, rfl, HC⟩ := hcut
    have hel := rep_len (fun k x h => by have := HA.out.ent k x h; have := HA.out.b0; omega) (rep_from0 (fun k h => (HA.out.slot k h).1) HRP.out)
    have hes : ∀ y ∈ es, y.2.2.size ≤ 65536 := fun y hy => by have := (HA.out.ent y.1 y.2 (((rep_from0 (fun k h => (HA.out.slot k h).1) HRP.out).all y.1 y.2).1 hy)); exact this.2.2.2
    have HES := Lib.hid hes
    obtain ⟨B0, hB0⟩ : ∃ B0, B0 = encL [a.prom.r, a.prom.n, a.base, es.length] := ⟨_, rfl⟩
    have hBl : B0.length ≤ 40 := by rw [hB0]; have := encL_len [a.prom.r, a.prom.n, a.base, (es.length : Int)]; simpa using this
    rw [← hB0] at HC
    clear hes HS H7
    go_wp2_with fail
    go_loopw [51] (fun vi wr => ∃ i : Nat, vi = .int .i64 (i : Int) ∧ i ≤ es.length ∧ Own W wr (blk g (.cells #[ptr bw] 101) :: wrA bw (B0 ++ (es.take i).flatMap entB) :: rowA 92 4 (.slice A5 es.length c5) es.length (entC es) :: accA pa a :: logA pl l :: dskA d x :: L)) (fun vi _ => es.length - intN vi)
    case atStart => exact ⟨0, rfl, by omega, by simpa using HC⟩
    case round =>
      obtain ⟨i, rfl, hi, HH⟩ := hrel
      have hcg := HH.cell
      by_cases hlt : i < es.length
      · obtain ⟨y, hy⟩ : ∃ y, es[i]? = some y := ⟨_, List.getElem?_eq_getElem hlt⟩
        rcases HH.front3.row_cases with ⟨_, h0, _⟩ | ⟨g5, cap, cur, hv, k1, k2, k3, k4, k5, HB⟩
        · omega
        · cases hv
          have hca := HB.cell
          have hcur : ∀ j u, (entC es)[j]? = some u → wr.cell? ⟨g5, j, none⟩ = some u := by
            intro j u hj
            rw [hca]
            rw [← k4, List.getElem?_take] at hj
            split at hj
            · simpa using hj
            · cases hj
          obtain ⟨f0, f1, f2, f3⟩ := entC_at hy
          have hg0 := hcur _ _ f0
          have hg1 := hcur _ _ f1
          have hg2 := hcur _ _ f2
          have hg3 := hcur _ _ f3
          have hsz := HES.out y (List.mem_of_getElem? hy)
          have hbl := entB_lens HES.out i
          have HY := Lib.hid hy
          clear hca hcur f0 f1 f2 f3 k3 k4 k5 hy HB
          have hltg := HH.lt
          have hltg1 : g < wr.heap.size + 1 := by omega
          have H1 := Own.lits (l := [y.1, y.2.1.r, y.2.1.n]) 3 ((HH.alloc (.cells #[ei y.1, ei y.2.1.r, ei y.2.1.n, .string y.2.2] 92)).alloc (.cells #[ei y.1, ei y.2.1.r, ei y.2.1.n] 3)) rfl (by simp)
          rw [World.size_alloc] at H1
          have H2 := H1.sel [0, 3]
          go_wp2_with (first | (go_at_call 131; refine (numbersC (l := [y.1, y.2.1.r, y.2.1.n]) H2 (by simp) (by rw [List.length_append]; omega)).mono ?_; rintro e wq ⟨rfl, H3⟩; have hq1 := H3.front2.cell; have hq2 := H3.front3.cell) | (go_at_call 73; refine (wrText H3 y.2.2 (by have := encL_len [y.1, y.2.1.r, y.2.1.n]; simp only [List.length_append, List.length_cons, List.length_nil] at this ⊢; omega) (by omega)).mono ?_; rintro e wt ⟨rfl, H4⟩))
          refine ⟨⟨i + 1, rfl, hlt, ?_⟩, by simp only [intN]; omega⟩
          have e : (es.take (i + 1)).flatMap entB = (es.take i).flatMap entB ++ entB y := by rw [List.take_add_one, HY.out]; simp
          rw [e]
          have H5 := (H4.sel [2, 0]).drop3
          simp only [entB, ← List.append_assoc] at H5 ⊢
          exact H5
      · have : i = es.length := by omega
        subst this
        rw [List.take_of_length_le (Nat.le_refl _)] at HH
        clear hcg hi hlt
        obtain ⟨B1, hB1⟩ : ∃ B1, B1 = B0 ++ es.flatMap entB := ⟨_, rfl⟩
        have hB1l : B1.length ≤ 300000000 := by
          have h1 := entB_lens HES.out es.length
          rw [List.take_of_length_le (Nat.le_refl _)] at h1
          rw [hB1, List.length_append]; omega
        rw [← hB1] at HH
        have hl0 := HL.out.lo
        have hl1 := HL.out.bu
        have hl2 := HL.out.ut
        have hl3 := HL.out.hi
        go_wp2_with (go_at_call 107; refine (logBase (HH.sel [4])).mono ?_; rintro e w' ⟨rfl, rfl⟩)
        go_loopw [12, 13] (fun vh vk wr => ∃ (k : Int) (hs : List Int) (Ah : Option Addr) (ch : Nat), vk = .int .i64 k ∧ vh = .slice Ah hs.length ch ∧ l.base ≤ k ∧ k ≤ 4096 ∧ hs.Pairwise (· < ·) ∧ (∀ i, i ∈ hs ↔ l.val i ≠ none ∧ i < k) ∧ Own W wr (rowA 3 1 (.slice Ah hs.length ch) hs.length (hs.map ik) :: blk g (.cells #[ptr bw] 101) :: wrA bw B1 :: accA pa a :: logA pl l :: dskA d x :: L)) (fun _ vk _ => 4096 - intN vk)
        case atStart => exact ⟨l.base, [], none, 0, rfl, rfl, by omega, by omega, List.Pairwise.nil, fun i => ⟨fun h => (by cases h), fun h => by have := HL.out.val i h.1; omega⟩, (HH.row_nil 3 1).drop4⟩
        case round =>
          obtain ⟨k, hs, Ah, ch, rfl, rfl, hk1, hk2, hup, hmem, HH⟩ := hrel
          have hlen : hs.length ≤ 4096 := nodup_bound 4096 hs (hup.imp (fun h => by omega)) (fun i hi => by have := ((hmem i).1 hi); have := HL.out.val i this.1; omega)
          have HU := Lib.hid hup
          have HM := Lib.hid hmem
          clear hup hmem
          by_cases hlt : k < 4096
          · have hgt := logGet (HH.sel [4]) k (goodInt_of (by omega) (by omega))
            rcases hv : l.val k with _ | v
            · have e : getV l k = .tuple #[.string ByteArray.empty, .bool false] := by unfold getV; rw [hv]
              rw [e] at hgt
              have HV := Lib.hid hv
              clear e hv
              go_wp2_with (go_at_call 63; refine hgt.mono ?_; rintro e w' ⟨rfl, rfl⟩)
              refine ⟨⟨k + 1, hs, Ah, ch, rfl, rfl, by omega, by omega, HU.out, fun i => ?_, HH⟩, by simp only [intN]; omega⟩
              rw [HM.out i]
              constructor
              · rintro ⟨h1, h2⟩; exact ⟨h1, by omega⟩
              · rintro ⟨h1, h2⟩
                refine ⟨h1, ?_⟩
                by_cases hik : i = k
                · subst hik; exact absurd HV.out h1
                · omega
            · have e : getV l k = .tuple #[.string v, .bool true] := by unfold getV; rw [hv]
              rw [e] at hgt
              have HV := Lib.hid hv
              obtain ⟨A9, c9, w3, hap, H5⟩ := ((Own.skip HH (.cells #[ei k] 3))).append_eq (m := 1) intT 153 (rd_new wr #[ei k] 3 rfl (by decide)) (by simp [Value.oneCell']) (by unfold maxLen; omega) (by omega)
              clear e hv
              go_wp2_with (go_at_call 63; refine hgt.mono ?_; rintro e w' ⟨rfl, rfl⟩)
              have hll : (hs ++ [k]).length = hs.length + 1 := by simp
              refine ⟨⟨k + 1, hs ++ [k], A9, c9, rfl, by rw [hll], by omega, by omega, ?_, fun i => ?_, ?_⟩, by simp only [intN]; omega⟩
              · rw [List.pairwise_append]
                exact ⟨HU.out, by simp, fun p hp q hq => by simp at hq; subst hq; exact ((HM.out p).1 hp).2⟩
              · rw [List.mem_append, HM.out i, List.mem_singleton]
                constructor
                · rintro (⟨h1, h2⟩ | rfl)
                  · exact ⟨h1, by omega⟩
                  · exact ⟨by rw [HV.out]; simp, by omega⟩
                · rintro ⟨h1, h2⟩
                  by_cases hik : i = k
                  · exact .inr hik
                  · exact .inl ⟨h1, by omega⟩
              · rw [hll, List.map_append]; exact H5
          · have hke : k = 4096 := by omega
            subst hke
            have hm2 : ∀ i, i ∈ hs ↔ l.val i ≠ none := fun i => by
              rw [HM.out i]
              exact ⟨fun h => h.1, fun h => ⟨h, by have := HL.out.val i h; omega⟩⟩
            have HM2 := Lib.hid hm2
            clear hm2
            go_upto_region 18 with fail
            have HS2 : CmT W (accA pa a :: dskA d x :: L) g bw pl l hs (.slice Ah hs.length ch) B1 wr := (HH.sel [1, 2, 4, 0])
            go_cut [] (fun wx => Own W wx (rowA 3 1 (.slice Ah hs.length ch) hs.length (hs.map ik) :: blk g (.cells #[ptr bw] 101) :: wrA bw (B1 ++ encL [l.base, hs.length]) :: accA pa a :: logA pl l :: dskA d x :: L))
            case first =>
              go_region_held3 (fun w' => ∀ i, w'.cell? ⟨g, i, none⟩ = #[ptr bw][i]?) (first | exact Own.cell (Own.drew HS2) | exact Own.cell (Own.drew (Own.skip HS2 _)) | exact Own.cell (Own.front2 Hz) | assumption) (first | (go_at_call 107; refine (logBase (CmT.log (Own.drew HS2))).mono ?_; rintro e w' ⟨rfl, rfl⟩) | (go_at_call 131; refine (numbersC (l := [l.base, hs.length]) (CmT.lits HS2) (by simp) (by omega)).mono ?_; rintro e wz ⟨rfl, Hz⟩))
              all_goals (go_wp2_with fail; go_meet; exact Own.sel Hz [3, 1, 0, 4, 2])
            case rest =>
              obtain ⟨B2, hB2⟩ : ∃ B2, B2 = B1 ++ encL [l.base, hs.length] := ⟨_, rfl⟩
              have hB2l : B2.length ≤ 300000100 := by
                have := encL_len [l.base, (hs.length : Int)]
                rw [hB2, List.length_append]; simp only [List.length_cons, List.length_nil] at this; omega
              have hvs : ∀ k ∈ hs, ∃ v, l.val k = some v := fun k hk => by
                cases hv : l.val k with
                | none => exact absurd hv ((HM2.out k).1 hk)
                | some v => exact ⟨v, rfl⟩
              have HV := Lib.hid hvs
              rw [← hB2] at hcut
              clear HS2 HM hvs
              go_wp2_with fail
              go_loopw [98] (fun vi wr => ∃ i : Nat, vi = .int .i64 (i : Int) ∧ i ≤ hs.length ∧ Own W wr (rowA 3 1 (.slice Ah hs.length ch) hs.length (hs.map ik) :: blk g (.cells #[ptr bw] 101) :: wrA bw (B2 ++ (valsOf l (hs.take i)).flatMap atB) :: accA pa a :: logA pl l :: dskA d x :: L)) (fun vi _ => hs.length - intN vi)
              case atStart => exact ⟨0, rfl, by omega, by simpa [valsOf] using hcut⟩
              case round =>
                obtain ⟨i, rfl, hi, HH⟩ := hrel
                have hcg := HH.front2.cell
                by_cases hlt2 : i < hs.length
                · obtain ⟨k, hk⟩ : ∃ k, hs[i]? = some k := ⟨_, List.getElem?_eq_getElem hlt2⟩
                  obtain ⟨v, hv⟩ := HV.out k (List.mem_of_getElem? hk)
                  have hsz := HL.out.sz k v hv
                  have hkr := HL.out.val k (by rw [hv]; simp)
                  have hgt := logGet (HH.sel [4]) k (goodInt_of (by omega) (by omega))
                  have e : getV l k = .tuple #[.string v, .bool true] := by unfold getV; rw [hv]
                  rw [e] at hgt
                  obtain ⟨-, A2, c2, he, -, -, hA2⟩ := HH.row_rd
                  cases he
                  obtain ⟨ad, rfl, hel⟩ := hA2 (by omega)
                  have hcell := hel i (ik k) (by simp [hk])
                  have hbl := atB_lens (l := l) (hs := hs) HL.out.sz i
                  have hst := valsOf_take (l := l) hk hv
                  have H1 := Own.lits (l := [k]) 3 (HH.alloc (.cells #[ei k] 3)) rfl (by simp)
                  have H2 := H1.sel [0, 3]
                  have HST := Lib.hid hst
                  clear hel hA2 hk hv e hst
                  go_wp2_with (first | (go_at_call 63; refine hgt.mono ?_; rintro e w' ⟨rfl, rfl⟩) | (go_at_call 131; refine (numbersC (l := [k]) H2 (by simp) (by rw [List.length_append]; omega)).mono ?_; rintro e wq ⟨rfl, H3⟩; have hq1 := H3.front3.cell) | (go_at_call 73; refine (wrText H3 v (by have := encL_len [k]; simp only [List.length_append, List.length_cons, List.length_nil] at this ⊢; omega) (by omega)).mono ?_; rintro e wt ⟨rfl, H4⟩))
                  refine ⟨⟨i + 1, rfl, hlt2, ?_⟩, by simp only [intN]; omega⟩
                  rw [HST.out]
                  have H5 := H4.sel [1, 2, 0]
                  simp only [atB, ← List.append_assoc] at H5 ⊢
                  exact H5
                · have : i = hs.length := by omega
                  subst this
                  rw [List.take_of_length_le (Nat.le_refl _)] at HH
                  have hbl := atB_lens (l := l) (hs := hs) HL.out.sz hs.length
                  rw [List.take_of_length_le (Nat.le_refl _)] at hbl
                  obtain ⟨B3, hB3⟩ : ∃ B3, B3 = B2 ++ (valsOf l hs).flatMap atB := ⟨_, rfl⟩
                  have hB3l : B3.length ≤ 600000200 := by rw [hB3, List.length_append]; omega
                  have hsn : B3 = snapB a l es (valsOf l hs) := by
                    rw [hB3, hB2, hB1, hB0, snapB]
                    simp only [valsOf, List.length_map]
                  rw [← hB3] at HH
                  have HSN := Lib.hid hsn
                  have hup2 := valsOf_rep HU.out HM2.out
                  have HU2 := Lib.hid hup2
                  have hdn := Lib.hid (doneC (HH.sel [2]) (by omega))
                  have hre := rep_from0 (fun k h => (HA.out.slot k h).1) HRP.out
                  have HRE := Lib.hid hre
                  clear hi hlt2 hsn hup2 hre hB3 hB2 hB1 hB0 hbl
                  by_cases h65 : B3.length ≤ 65536
                  · rw [show shortP B3 = (0, B3) from if_pos h65] at hdn
                    have hsv : x.save B3 = (0, ⟨[], 0, B3, true⟩) := if_pos h65
                    go_wp2_with fail
                    refine hdn.out.mono ?_
                    rintro e w1 ⟨v, rfl, H1⟩
                    obtain ⟨A1, c1, hv1, _⟩ := H1.row_rd.form
                    simp only at hv1 H1
                    subst hv1
                    go_wp2_with (go_at_call 22; refine (diskSave (H1.sel [6]) H1.row_rd).mono ?_; rintro e w2 ⟨rfl, H2⟩)
                    go_ret
                    refine ⟨es, valsOf l hs, HRE.out, HU2.out, by rw [← HSN.out, hsv]; rfl, ?_⟩
                    rw [← HSN.out]
                    exact (H2.sel [0, 5, 6]).drop4.drop4.drop4.drop4
                  · rw [show shortP B3 = (11, []) from if_neg h65] at hdn
                    have hsv : x.save B3 = (11, x) := if_neg h65
                    go_wp2_with fail
                    refine hdn.out.mono ?_
                    rintro e w1 ⟨v, rfl, H1⟩
                    simp only at H1
                    go_wp2_with fail
                    go_ret
                    refine ⟨es, valsOf l hs, HRE.out, HU2.out, by rw [← HSN.out, hsv]; rfl, ?_⟩
                    rw [← HSN.out, hsv]
                    exact (H1.sel [6, 4, 5]).drop4.drop4.drop4.drop4
end
end Sk
/- What the examples come to: plain. -/
namespace Sk
open Go Go.RowKit
def wB : Bal := ⟨5, 2⟩
def wAb : ByteArray := ⟨#[97, 98]⟩
def wE : ByteArray := ⟨#[]⟩
theorem encU_300 : encU 300 = [172, 2] := by rw [encU_ge (by decide), encU_lt (by decide)]; rfl
theorem encI_small {n : Int} (h0 : 0 ≤ n) (h : n < 128) : encI n = [UInt8.ofNat n.toNat] := by
  unfold encI
  have e : uN n = n.toNat := by unfold uN; omega
  rw [e, encU_lt (by omega)]
theorem encI_300 : encI 300 = [172, 2] := encU_300
theorem w_prom : promP wB = (0, [1, 5, 2]) := by
  have e : encL [1, wB.r, wB.n] = [1, 5, 2] := by
    simp only [encL, List.flatMap_cons, List.flatMap_nil, wB]
    rw [encI_small (by decide) (by decide), encI_small (by decide) (by decide), encI_small (by decide) (by decide)]; rfl
  unfold promP
  rw [if_pos (by decide), e]; rfl
theorem w_acc : accP wB 300 wAb = (0, [2, 5, 2, 172, 2, 2, 97, 98]) := by
  have e : encL [2, wB.r, wB.n, 300] ++ encU wAb.size ++ wAb.data.toList = [2, 5, 2, 172, 2, 2, 97, 98] := by
    simp only [encL, List.flatMap_cons, List.flatMap_nil, wB]
    rw [encI_300, encI_small (by decide) (by decide), encI_small (by decide) (by decide), encU_lt (by decide)]; rfl
  unfold accP
  rw [if_pos (by decide), e]; rfl
theorem w_cho : chooseP 0 wE = (0, [3, 0, 0]) := by
  have e : encL [3, 0] ++ encU wE.size ++ wE.data.toList = [3, 0, 0] := by
    simp only [encL, List.flatMap_cons, List.flatMap_nil]
    rw [encI_small (by decide) (by decide), encI_small (by decide) (by decide), encU_lt (by decide)]; rfl
  unfold chooseP
  rw [if_pos (by decide), e]; rfl
theorem w_p1 : parseP [1, 5, 2] = some ⟨1, wB, 0, []⟩ := by kernel_rfl
theorem w_p2 : parseP [2, 5, 2, 172, 2, 2, 97, 98] = some ⟨2, wB, 300, [97, 98]⟩ := by kernel_rfl
theorem w_p3 : parseP [3, 0, 0] = some ⟨3, Bal.zero, 0, []⟩ := by kernel_rfl
def wA1 : Acc := { Acc.new 3 with prom := wB }
def wA : Acc := { wA1 with prom := wB, ent := fset wA1.ent 300 (some (wB, wAb)) }
def wL : Log := ⟨fset Log.new.val 0 (some wE), 0, 1, 1⟩
theorem wL_ok : wL.ok := by
  constructor
  · decide
  · decide
  · decide
  · decide
  · intro k hk
    by_cases h : k = 0
    · subst h; decide
    · simp [wL, fset, h, Log.new] at hk
  · intro k h1 h2
    have : k = 0 := by simp [wL] at h1 h2; omega
    subst this
    simp [wL, fset]
  · simp [wL, fset, Log.new]
  · right; simp [wL, fset]
  · intro k v h
    by_cases hk : k = 0
    · subst hk; simp [wL, fset] at h; subst h; decide
    · simp [wL, fset, hk, Log.new] at h
theorem w_d1 : doP (Acc.new 3) Log.new ⟨1, wB, 0, []⟩ = (0, wA1, Log.new) := by
  unfold doP
  rw [if_pos rfl]
  have : (Acc.new 3).promise wB 0 = (0, wA1) := by
    unfold Acc.promise
    rw [if_neg (by decide), if_neg (by decide)]; rfl
  simp only [this]
theorem w_d2 : doP wA1 Log.new ⟨2, wB, 300, [97, 98]⟩ = (0, wA, Log.new) := by
  unfold doP
  rw [if_neg (by decide), if_pos rfl]
  have : wA1.accept wB 300 wAb = (0, wA) := by
    unfold Acc.accept
    rw [if_neg (by decide), if_neg (by decide), if_neg (by decide), if_neg (by decide)]; rfl
  show ((wA1.accept wB 300 wAb).1, (wA1.accept wB 300 wAb).2, Log.new) = _
  simp only [this]
theorem w_d3 : doP wA Log.new ⟨3, Bal.zero, 0, []⟩ = (0, wA, wL) := by
  unfold doP
  rw [if_neg (by decide), if_neg (by decide)]
  have he : Log.new.putE 0 wE = 0 := by
    unfold Log.putE
    rw [if_neg (by decide), if_neg (by decide), if_neg (by decide), if_neg (by simp [Log.new])]
  have : Log.new.put 0 wE = wL := by
    unfold Log.put
    rw [if_pos he]
    exact (mkLog_eq wL_ok).symm
  show (Log.new.putE 0 wE, wA, Log.new.put 0 wE) = _
  rw [he, this]
theorem w_recs : recsP (Acc.new 3) Log.new [[1, 5, 2], [2, 5, 2, 172, 2, 2, 97, 98], [3, 0, 0]] = some (wA, wL) := by
  simp only [recsP, w_p1, w_p2, w_p3, w_d1, w_d2, w_d3, if_true]
theorem w_es {es : List (Int × Bal × Str)} (h : Rep wA.ent es) : es = [(300, wB, wAb)] := by
  refine h.eq ⟨by simp, fun k x => ?_⟩
  by_cases hk : k = 300
  · subst hk
    simp [wA, fset, eq_comm]
  · simp [wA, fset, hk, wA1, Acc.new]
theorem w_vs {vs : List (Int × Bs)} (h : Rep wL.val vs) : vs = [(0, wE)] := by
  refine h.eq ⟨by simp, fun k x => ?_⟩
  by_cases hk : k = 0
  · subst hk
    simp [wL, fset, eq_comm]
  · simp [wL, fset, hk, Log.new]
theorem w_snap : snapB wA wL [(300, wB, wAb)] [(0, wE)] = [5, 2, 0, 1, 172, 2, 5, 2, 2, 97, 98, 0, 1, 0, 0] := by
  have e1 : encL [wA.prom.r, wA.prom.n, wA.base, ((([(300, wB, wAb)] : List (Int × Bal × Str)).length : Nat) : Int)] = [5, 2, 0, 1] := by
    show encL [5, 2, 0, 1] = _
    simp only [encL, List.flatMap_cons, List.flatMap_nil]
    rw [encI_small (by decide) (by decide), encI_small (by decide) (by decide), encI_small (by decide) (by decide), encI_small (by decide) (by decide)]; rfl
  have e2 : entB (300, wB, wAb) = [172, 2, 5, 2, 2, 97, 98] := by
    show encL [300, 5, 2] ++ encU wAb.size ++ wAb.data.toList = _
    simp only [encL, List.flatMap_cons, List.flatMap_nil]
    rw [encI_300, encI_small (by decide) (by decide), encI_small (by decide) (by decide), encU_lt (by decide)]; rfl
  have e3 : encL [wL.base, ((([(0, wE)] : List (Int × Bs)).length : Nat) : Int)] = [0, 1] := by
    show encL [0, 1] = _
    simp only [encL, List.flatMap_cons, List.flatMap_nil]
    rw [encI_small (by decide) (by decide), encI_small (by decide) (by decide)]; rfl
  have e4 : atB (0, wE) = [0, 0] := by
    show encL [0] ++ encU wE.size ++ wE.data.toList = _
    simp only [encL, List.flatMap_cons, List.flatMap_nil]
    rw [encI_small (by decide) (by decide), encU_lt (by decide)]; rfl
  unfold snapB
  rw [e1, e3]
  simp only [List.flatMap_cons, List.flatMap_nil, e2, e4]
  rfl
end Sk
/- The reference of wire: the writer. -/
namespace Sk
open Go Go.RowKit Go.Proofs
attribute [local go_sem ↓] append_hide
/-- A row in a block just made. -/
theorem Own.row_new {W w : World} {L : List Asn} (H : Own W w L) (e : TypeId) (cs : Array Value) (n : Nat) (h : cs.size = n) (hn : n ≤ 1000) : Own W (w.alloc (.cells cs e)) (rowA e 1 (.slice (some ⟨w.heap.size, 0, none⟩) n n) n cs.toList :: L) :=
  (H.alloc _).row_of_blk (Nat.le_refl _) (by unfold maxLen; omega) (by omega) (by rw [Nat.mul_one, ← h, ← Array.length_toList, List.take_length])
section
variable {W : World}
set_option maxRecDepth 100000 in
set_option maxHeartbeats 1000000 in
theorem rNumber : ∀ (k n : Nat), n < 128 ^ (k + 1) → n < 18446744073709551616 → k ≤ 20 → ∀ (w : World) (L : List Asn), Own W w L → Calls Tryz.prog 153 #[.int .u64 (n : Int)] w (RetRow W 5 1 (encU n).length ((encU n).map byteV) L) := by
  intro k
  induction k with
  | zero =>
    intro n hn hn2 _ w L H
    have hs : n < 128 := by simpa using hn
    have hs' : (n : Int) < 128 := by omega
    rw [encU_lt hs]
    have hb : byteV (UInt8.ofNat n) = .int .u8 (n : Int) := by rw [byteV_ofNat]; congr 1; omega
    have H1 := H.row_new 5 #[.int .u8 (n : Int)] 1 rfl (by decide)
    clear hn hn2
    go_enter Tryz.func153, Tryz.ntmps153
    go_wp2
    go_ret
    exact ⟨_, _, rfl, by simpa [hb] using H1⟩
  | succ k ih =>
    intro n hn hn2 hk w L H
    by_cases hs : n < 128
    · have hs' : (n : Int) < 128 := by omega
      rw [encU_lt hs]
      have hb : byteV (UInt8.ofNat n) = .int .u8 (n : Int) := by rw [byteV_ofNat]; congr 1; omega
      have H1 := H.row_new 5 #[.int .u8 (n : Int)] 1 rfl (by decide)
      clear hn hn2 ih
      go_enter Tryz.func153, Tryz.ntmps153
      go_wp2
      go_ret
      exact ⟨_, _, rfl, by simpa [hb] using H1⟩
    · have hs' : ¬ (n : Int) < 128 := by omega
      have hdiv : n / 128 < 128 ^ (k + 1) := by
        rw [Nat.pow_succ] at hn
        exact Nat.div_lt_of_lt_mul (by rw [Nat.mul_comm]; exact hn)
      have hb : byteV (UInt8.ofNat (n % 128 + 128)) = .int .u8 ((n : Int) % 128 + 128) := by rw [byteV_ofNat]; congr 1; omega
      have H1 := H.row_new 5 #[.int .u8 ((n : Int) % 128 + 128)] 1 rfl (by decide)
      have hlen := encN_len 19 (n / 128) (by omega)
      have hc := ih (n / 128) hdiv (by omega) (by omega) _ _ H1
      rw [show ((n / 128 : Nat) : Int) = (n : Int) / 128 by omega] at hc
      rw [encU_ge hs]
      have HB := Lib.hid hb
      have HC := Lib.hid hc
      have hl2 : (encU (n / 128)).length ≤ 20 := by simpa [encU] using hlen
      obtain ⟨ys, hys⟩ : ∃ ys, ys = encU (n / 128) := ⟨_, rfl⟩
      rw [← hys] at hl2 HC ⊢
      clear hb hc hn hdiv ih hlen hys
      go_enter Tryz.func153, Tryz.ntmps153
      go_wp2_with fail
      refine HC.out.mono ?_
      rintro e w1 ⟨A', c', rfl, H2⟩
      obtain ⟨A2, c2, w2, hap, H3⟩ := (H2.front2).append_eq (m := ys.length) byteT 24 H2.row_rd (bytes_one ys) (by unfold maxLen; omega) (by omega)
      go_wp2_with fail
      go_ret
      refine ⟨A2, c2, ?_, ?_⟩
      · rw [Nat.add_comm]; rfl
      · have H4 := H3.drop2
        rw [Nat.add_comm 1] at H4
        rw [List.map_cons, HB.out]
        exact H4
/-- The reference's writer. -/
def rwA (b : Nat) (s : List UInt8) : Asn := exi fun v : Value => grp [blk b (.cells #[.bool true, v] 197), rowA 5 1 v s.length (s.map byteV)]
variable {w : World} {L : List Asn} {b : Nat} {s : List UInt8}
theorem Own.rw_open (H : Own W w (rwA b s :: L)) : ∃ A c, Own W w (blk b (.cells #[.bool true, .slice A s.length c] 197) :: rowA 5 1 (.slice A s.length c) s.length (s.map byteV) :: L) := by
  obtain ⟨v, H⟩ := Own.exi_iff.1 H
  have H : Own W w (blk b (.cells #[.bool true, v] 197) :: rowA 5 1 v s.length (s.map byteV) :: L) := Own.grp_iff.1 H
  obtain ⟨A, c, rfl, _⟩ := H.front2.row_rd.form
  exact ⟨A, c, H⟩
theorem Own.rw_shut {v : Value} (H : Own W w (blk b (.cells #[.bool true, v] 197) :: rowA 5 1 v s.length (s.map byteV) :: L)) : Own W w (rwA b s :: L) := Own.exi_iff.2 ⟨v, Own.grp_iff.2 H⟩
set_option maxHeartbeats 1000000 in
theorem rwNew (H : Own W w L) : Calls Tryz.prog 69 #[] w fun e w' => ∃ b, e = .returned (ptr b) ∧ Own W w' (rwA b [] :: L) := by
  have H1 := (H.alloc (.cells #[.bool true, .slice none 0 0] 197))
  go_enter Tryz.func69, Tryz.ntmps69
  go_wp2
  go_ret
  exact ⟨_, rfl, Own.rw_shut (s := []) ((H1.row_nil 5 1).sel [1, 0])⟩
set_option maxRecDepth 100000 in
set_option maxHeartbeats 1000000 in
theorem rwAdd {x : Value} {t : List UInt8} (H : Own W w (rwA b s :: L)) (hr : RdW w 1 x t.length (t.map byteV)) (hs : s.length ≤ 1099511627776) (ht : t.length ≤ 1099511627776) :
    Calls Tryz.prog 152 #[ptr b, x] w fun e w' => e = .returned (.tuple #[]) ∧ Own W w' (rwA b (s ++ t) :: L) := by
  obtain ⟨A, c, H0⟩ := H.rw_open
  have hc := H0.cell
  obtain ⟨A2, c2, w2, hap, H1⟩ := (H0.front2).append_eq (m := t.length) byteT 24 hr (bytes_one t) (by unfold maxLen; omega) (by omega)
  obtain ⟨A3, c3, rfl, _⟩ := hr.form
  have H2 := H1.front2
  have hc2 := H2.cell
  have hf2 := H2.free
  have H3 := H2.set 1 (.slice A2 (s.length + t.length) c2)
  go_enter Tryz.func152, Tryz.ntmps152
  go_wp2_with (go_at_call 200; go_in)
  refine bodyPost_end (results_none rfl _ _ _) rfl ?_
  refine ⟨rfl, Own.rw_shut (s := s ++ t) (v := .slice A2 (s.length + t.length) c2) ?_⟩
  rw [List.length_append, List.map_append]
  exact H3
set_option maxRecDepth 100000 in
set_option maxHeartbeats 1000000 in
theorem rwUint (H : Own W w (rwA b s :: L)) (n : Nat) (hn : n < 18446744073709551616) (hs : s.length ≤ 1099511627776) :
    Calls Tryz.prog 70 #[ptr b, .int .u64 (n : Int)] w fun e w' => e = .returned (.tuple #[]) ∧ Own W w' (rwA b (s ++ encU n) :: L) := by
  have hnum := Lib.hid (rNumber 9 n (by omega) hn (by omega) w _ H)
  have hlen := encN_len 9 n (by omega)
  have hl2 : (encU n).length ≤ 10 := by simpa [encU] using hlen
  clear hn hlen
  go_enter Tryz.func70, Tryz.ntmps70
  go_wp2_with fail
  refine hnum.out.mono ?_
  rintro e w1 ⟨A, c, rfl, H1⟩
  go_wp2_with fail
  refine (rwAdd H1.front2 H1.row_rd hs (by omega)).mono ?_
  rintro e w2 ⟨rfl, H2⟩
  go_wp2_with fail
  refine bodyPost_end (results_none rfl _ _ _) rfl ?_
  exact ⟨rfl, H2.drop2⟩
/-- The bytes of a string, made anew. -/
theorem strBytes (w : World) (t : ByteArray) (ht : t.size ≤ 549755813888) : ∃ A c w', (convert 9 24 (.string t)).run Tryz.prog w = .ok (.slice A t.size c) w' ∧ Bel w w' ∧ RdW w' 1 (.slice A t.size c) t.data.toList.length (t.data.toList.map byteV) := by
  have hrun := run_bytes_of_string (P := Tryz.prog) w 9 24 5 t Tryz.underlying9 Tryz.underlying24 Tryz.underlying5
  have hge := grownCap_ge w t.size 0 5
  have hle := grownCap_le_maxLen w t.size 0 5 (by unfold maxLen; omega)
  have hl : t.data.toList.length = t.size := Array.length_toList
  refine ⟨_, _, _, hrun, (Bel.refl w).drew.alloc _, ?_, ?_⟩
  · rw [List.length_map]; omega
  · rw [hl]
    refine ⟨_, _, rfl, hge, hle, fun _ => ⟨_, rfl, fun j u hu => ?_⟩⟩
    rw [add_zero_block]
    have hj : j < t.data.size := by
      have := (List.getElem?_eq_some_iff.1 hu).1
      simpa using this
    have := bytesRow_at t (grownCap w t.size 0 5) j hj
    have e : u = .int .u8 (t.data[j].toNat : Int) := by
      rw [List.getElem?_map, Array.getElem?_toList, Array.getElem?_eq_getElem hj] at hu
      simpa [byteV] using hu.symm
    rw [e, ← this]
    have hn := heap_alloc_new w.drew (.cells (bytesRow t (grownCap w t.size 0 5)) 5 ((bytesRow t (grownCap w t.size 0 5)).size, (bytesRow t (grownCap w t.size 0 5)).size + 1))
    have hn' : (w.drew.alloc (.cells (bytesRow t (grownCap w t.size 0 5)) 5 ((bytesRow t (grownCap w t.size 0 5)).size, (bytesRow t (grownCap w t.size 0 5)).size + 1))).heap[w.heap.size]? = some _ := hn
    simp only [World.cell?, hn']
    rfl
set_option maxRecDepth 100000 in
set_option maxHeartbeats 1000000 in
theorem rwText (H : Own W w (rwA b s :: L)) (t : ByteArray) (hs : s.length ≤ 549755813888) (ht : t.size ≤ 549755813888) :
    Calls Tryz.prog 75 #[ptr b, .string t] w fun e w' => e = .returned (.tuple #[]) ∧ Own W w' (rwA b (s ++ encU t.size ++ t.data.toList) :: L) := by
  have hnum := Lib.hid (rNumber 9 t.size (by omega) (by omega) (by omega) w _ H)
  have hlen := encN_len 9 t.size (by omega)
  have hl2 : (encU t.size).length ≤ 10 := by simpa [encU] using hlen
  have hw : IntKind.u64.wrap (t.size : Int) = (t.size : Int) := wrapu_nat (by omega)
  clear hlen
  go_enter Tryz.func75, Tryz.ntmps75
  go_wp2_with fail
  refine hnum.out.mono ?_
  rintro e w1 ⟨A, c, rfl, H1⟩
  go_wp2_with fail
  refine (rwAdd H1.front2 H1.row_rd (by omega) (by omega)).mono ?_
  rintro e w2 ⟨rfl, H2⟩
  obtain ⟨A4, c4, w4, hcv, hb4, hr4⟩ := strBytes w2 t ht
  have hlt : t.data.toList.length = t.size := Array.length_toList
  have H3 := H2.grown hb4
  have hr0 := Lib.hid hr4
  clear hr4
  go_wp2_with fail
  refine (rwAdd H3 hr0.out (by rw [List.length_append]; omega) (by omega)).mono ?_
  rintro e w5 ⟨rfl, H5⟩
  go_wp2_with fail
  refine bodyPost_end (results_none rfl _ _ _) rfl ?_
  exact ⟨rfl, H5.drop2⟩
set_option maxRecDepth 100000 in
set_option maxHeartbeats 1000000 in
theorem rwBytes (H : Own W w (rwA b s :: L)) (hs : s.length ≤ 1099511627776) :
    Calls Tryz.prog 155 #[ptr b] w (RetRow W 5 1 s.length (s.map byteV) (rwA b s :: L)) := by
  obtain ⟨A, c, H0⟩ := H.rw_open
  have hc := H0.cell
  have hlt := H0.lt
  have H1 := H.row_new 5 #[] 0 rfl (by decide)
  obtain ⟨A2, c2, w2, hap, H2⟩ := H1.append_eq (m := s.length) byteT 24 ((H0.front2.row_rd).alloc _) (bytes_one s) (by unfold maxLen; omega) (by omega)
  rw [Nat.zero_add] at hap H2
  go_enter Tryz.func155, Tryz.ntmps155
  go_wp2_with (go_at_call 200; go_in)
  go_ret
  exact ⟨_, _, rfl, by simpa using H2⟩
set_option maxRecDepth 100000 in
set_option maxHeartbeats 1000000 in
theorem rwLen (H : Own W w (rwA b s :: L)) (hs : s.length ≤ 1099511627776) :
    Calls Tryz.prog 154 #[ptr b] w fun e w' => e = .returned (ei s.length) ∧ Own W w' (rwA b s :: L) := by
  go_enter Tryz.func154, Tryz.ntmps154
  go_wp2_with fail
  refine (rwBytes H hs).mono ?_
  rintro e w1 ⟨A, c, rfl, H1⟩
  go_wp2_with fail
  go_ret
  exact ⟨rfl, H1.drop⟩
end
end Sk
/- How the reference of wire reads numbers: plain. -/
namespace Sk
open Go Go.RowKit
def sB (l : List UInt8) : Nat := l.foldr (fun c a => c.toNat % 128 + 128 * a) 0
theorem sB_snoc (l : List UInt8) (c : UInt8) : sB (l ++ [c]) = sB l + c.toNat % 128 * 128 ^ l.length := by
  induction l with
  | nil => simp [sB]
  | cons x l ih =>
    simp only [sB, List.cons_append, List.foldr_cons, List.length_cons] at ih ⊢
    rw [ih, Nat.pow_succ, Nat.mul_add, Nat.mul_comm (128 ^ l.length) 128, ← Nat.mul_assoc, ← Nat.mul_assoc, Nat.mul_comm 128 (c.toNat % 128)]
    omega
theorem sB_enc (n : Nat) : sB (encU n) = n := by
  induction n using Nat.strongRecOn with
  | ind n ih =>
    by_cases h : n < 128
    · rw [encU_lt h]
      simp only [sB, List.foldr_cons, List.foldr_nil, UInt8.toNat_ofNat']
      omega
    · rw [encU_ge h]
      have := ih (n / 128) (by omega)
      simp only [sB, List.foldr_cons, UInt8.toNat_ofNat'] at this ⊢
      rw [this]
      omega
/-- What the reference has reckoned behind i bytes. -/
def ruN (s : List UInt8) (i : Nat) : Nat := sB (s.take i) % 18446744073709551616
theorem ruN_succ {s : List UInt8} {i : Nat} {c : UInt8} (h : s[i]? = some c) : ruN s (i + 1) = (ruN s i + c.toNat % 128 * 2 ^ (7 * i)) % 18446744073709551616 := by
  have hl : (s.take i).length = i := by
    rw [List.length_take]
    have := (List.getElem?_eq_some_iff.1 h).1
    omega
  have hp : (128 : Nat) ^ i = 2 ^ (7 * i) := by rw [show (128 : Nat) = 2 ^ 7 from rfl, ← Nat.pow_mul]
  unfold ruN
  rw [List.take_add_one, h, Option.toList_some, sB_snoc, hl, hp]
  omega
theorem encU_term (n : Nat) : ∃ l c, encU n = l ++ [c] ∧ (∀ x ∈ l, 128 ≤ x.toNat) ∧ c.toNat < 128 := by
  induction n using Nat.strongRecOn with
  | ind n ih =>
    by_cases h : n < 128
    · exact ⟨[], UInt8.ofNat n, by rw [encU_lt h]; rfl, by simp, by simp only [UInt8.toNat_ofNat']; omega⟩
    · obtain ⟨l, c, h1, h2, h3⟩ := ih (n / 128) (by omega)
      refine ⟨UInt8.ofNat (n % 128 + 128) :: l, c, by rw [encU_ge h, h1]; rfl, fun x hx => ?_, h3⟩
      rcases List.mem_cons.1 hx with rfl | hx
      · simp only [UInt8.toNat_ofNat']; omega
      · exact h2 x hx
/-- A number's last byte is the first one below 128. -/
theorem rdNum_term {s r : List UInt8} {n : Nat} (h : rdNum s = some (n, r)) : ∃ i c, i < 10 ∧ s[i]? = some c ∧ c.toNat < 128 ∧ (∀ j x, j < i → s[j]? = some x → 128 ≤ x.toNat) ∧ encU n = s.take (i + 1) ∧ ruN s (i + 1) = n ∧ r = s.drop (i + 1) := by
  obtain ⟨h1, h2, _⟩ := rdNum_some h
  obtain ⟨l, c, e1, e2, e3⟩ := encU_term n
  have hl : l.length + 1 ≤ 10 := by
    have := encN_len 9 n (by omega)
    have e : (encU n).length = l.length + 1 := by rw [e1]; simp
    have e' : (encU n).length = (encN n).length := by simp [encU]
    omega
  have hs : s = (l ++ [c]) ++ r := by rw [← e1]; exact h2
  have ht : encU n = s.take (l.length + 1) := by rw [e1, hs, List.take_left' (by simp)]
  refine ⟨l.length, c, by omega, by rw [hs]; simp, e3, fun j x hj hx => ?_, ht, ?_, by rw [hs, List.drop_left' (by simp)]⟩
  · rw [hs, List.append_assoc, List.getElem?_append_left hj] at hx
    exact e2 x (List.mem_of_getElem? hx)
  · unfold ruN
    rw [← ht, sB_enc]
    exact Nat.mod_eq_of_lt h1
theorem rdNum_yes {s : List UInt8} {i : Nat} (h : encU (ruN s (i + 1)) = s.take (i + 1)) : rdNum s = some (ruN s (i + 1), s.drop (i + 1)) := by
  have hlt : ruN s (i + 1) < 18446744073709551616 := Nat.mod_lt _ (by decide)
  have := rdNum_enc hlt (s.drop (i + 1))
  rw [h, List.take_append_drop] at this
  exact this
theorem rdNum_no {s : List UInt8} {i : Nat} {c : UInt8} (hc : s[i]? = some c) (h1 : c.toNat < 128) (hall : ∀ j x, j < i → s[j]? = some x → 128 ≤ x.toNat) (h : encU (ruN s (i + 1)) ≠ s.take (i + 1)) : rdNum s = none := by
  rcases hn : rdNum s with _ | ⟨n, r⟩
  · rfl
  · exfalso
    obtain ⟨k, x, _, hk, hx, hlt, e1, e2, _⟩ := rdNum_term hn
    have : k = i := by
      rcases Nat.lt_trichotomy k i with g | g | g
      · have := hall k x g hk; omega
      · exact g
      · have := hlt i c g hc; omega
    subst this
    exact h (by rw [e2]; exact e1)
theorem rdNum_end {s : List UInt8} {i : Nat} (hi : 10 ≤ i ∨ s.length ≤ i) (hall : ∀ j x, j < i → s[j]? = some x → 128 ≤ x.toNat) : rdNum s = none := by
  rcases hn : rdNum s with _ | ⟨n, r⟩
  · rfl
  · exfalso
    obtain ⟨k, x, hk10, hk, hx, _, _, _, _⟩ := rdNum_term hn
    have hkl := (List.getElem?_eq_some_iff.1 hk).1
    have := hall k x (by omega) hk
    omega
end Sk
