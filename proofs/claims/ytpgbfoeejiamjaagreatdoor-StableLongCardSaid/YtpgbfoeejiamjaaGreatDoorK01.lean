/- A small separation logic over the model's heap: what a world owns, as a list of assertions. -/
import Derived.WalkKit
import Derived.Deep.Draws
import Derived.Maps.Keyed
import Derived.Maps.OwnOps
import Derived.Maps.RangeWalk
import Derived.WalkSpells
import Derived.WalkLawsBesides
import Derived.StillTailTactics
import Derived.Deep.QuietTactic
import Derived.BigQuiet
import Derived.Lib.Hide
import Derived.Deep.RegionHeld3
set_option linter.all false
set_option linter.unusedVariables false
set_option linter.unusedSimpArgs false
set_option linter.unusedSectionVars false
namespace Sk
open Go Go.RowKit

/-- A part of a heap. -/
abbrev Hp := Nat → Option Obj
def Hle (h h' : Hp) : Prop := ∀ b o, h b = some o → h' b = some o
def Hdis (h h' : Hp) : Prop := ∀ b, h b = none ∨ h' b = none
theorem Hle.refl (h : Hp) : Hle h h := fun _ _ e => e
theorem hle_none (h : Hp) : Hle (fun _ => none) h := fun _ _ e => by cases e
theorem Hle.trans {a b c : Hp} (x : Hle a b) (y : Hle b c) : Hle a c := fun i o e => y i o (x i o e)
theorem Hle.none {h h' : Hp} (x : Hle h h') {b : Nat} (e : h' b = none) : h b = none := by
  cases hb : h b with
  | none => rfl
  | some o => rw [x b o hb] at e; cases e
theorem Hdis.mono {a b a' b' : Hp} (d : Hdis a b) (x : Hle a' a) (y : Hle b' b) : Hdis a' b' := fun i => by
  rcases d i with h | h
  · exact .inl (x.none h)
  · exact .inr (y.none h)
theorem Hdis.symm {a b : Hp} (d : Hdis a b) : Hdis b a := fun i => (d i).symm

/-- An assertion on what is owned, and on what is never written any more. -/
structure Asn where
  holds : Hp → Hp → Prop
  mono : ∀ {h r h' r' : Hp}, Hle h h' → Hle r r' → holds h r → holds h' r'

def All : List Asn → Hp → Hp → Prop
  | [], _, _ => True
  | A :: L, h, r => ∃ h1 h2, Hle h1 h ∧ Hle h2 h ∧ Hdis h1 h2 ∧ A.holds h1 r ∧ All L h2 r
theorem All.mono {L : List Asn} : ∀ {h r h' r' : Hp}, Hle h h' → Hle r r' → All L h r → All L h' r' := by
  induction L with
  | nil => intros; trivial
  | cons A L ih =>
    rintro h r h' r' x y ⟨h1, h2, a, b, d, hA, hL⟩
    exact ⟨h1, h2, a.trans x, b.trans x, d, A.mono (Hle.refl _) y hA, ih (Hle.refl _) y hL⟩
def hun (a b : Hp) : Hp := fun i => (a i).or (b i)
theorem hle_hun_l (a b : Hp) : Hle a (hun a b) := fun i o e => by simp [hun, e]
theorem hle_hun_r {a b : Hp} (d : Hdis a b) : Hle b (hun a b) := fun i o e => by
  rcases d i with h | h
  · simp [hun, h, e]
  · rw [h] at e; cases e
theorem hun_le {a b c : Hp} (x : Hle a c) (y : Hle b c) : Hle (hun a b) c := fun i o e => by
  unfold hun at e
  cases h : a i with
  | none => rw [h] at e; exact y i o (by simpa using e)
  | some p => rw [h] at e; exact x i o (by rw [h]; simpa using e)
theorem hdis_hun {a b c : Hp} (x : Hdis a c) (y : Hdis b c) : Hdis (hun a b) c := fun i => by
  rcases x i with h | h
  · rcases y i with h' | h'
    · exact .inl (by simp [hun, h, h'])
    · exact .inr h'
  · exact .inr h
theorem All.swap {A B : Asn} {L : List Asn} {h r : Hp} (x : All (A :: B :: L) h r) : All (B :: A :: L) h r := by
  obtain ⟨h1, h2, a1, a2, d, hA, k1, k2, b1, b2, e, hB, hL⟩ := x
  refine ⟨k1, hun h1 k2, b1.trans a2, hun_le a1 (b2.trans a2), ?_, hB, h1, k2, hle_hun_l _ _, hle_hun_r (d.mono (Hle.refl _) b2), d.mono (Hle.refl _) b2, hA, hL⟩
  exact (hdis_hun (d.mono (Hle.refl _) b1) e.symm).symm
theorem All.perm {L L' : List Asn} (p : L.Perm L') : ∀ {h r : Hp}, All L h r → All L' h r := by
  induction p with
  | nil => intros; trivial
  | cons A _ ih => rintro h r ⟨h1, h2, a, b, d, hA, hL⟩; exact ⟨h1, h2, a, b, d, hA, ih hL⟩
  | swap A B L => intro h r x; exact x.swap
  | trans _ _ i j => intro h r x; exact j (i x)
theorem All.append {L M : List Asn} : ∀ {h r : Hp}, (∃ h1 h2, Hle h1 h ∧ Hle h2 h ∧ Hdis h1 h2 ∧ All L h1 r ∧ All M h2 r) → All (L ++ M) h r := by
  induction L with
  | nil => rintro h r ⟨h1, h2, _, b, _, _, x⟩; exact x.mono b (Hle.refl _)
  | cons A L ih =>
    rintro h r ⟨h1, h2, a, b, d, ⟨k1, k2, c1, c2, e, hA, hL⟩, hM⟩
    refine ⟨k1, hun k2 h2, c1.trans a, hun_le (c2.trans a) b, ?_, hA, ih ⟨k2, h2, hle_hun_l _ _, hle_hun_r (d.mono c2 (Hle.refl _)), d.mono c2 (Hle.refl _), hL, hM⟩⟩
    exact (hdis_hun e.symm (d.symm.mono (Hle.refl _) c1)).symm
theorem All.of_append {L M : List Asn} : ∀ {h r : Hp}, All (L ++ M) h r → ∃ h1 h2, Hle h1 h ∧ Hle h2 h ∧ Hdis h1 h2 ∧ All L h1 r ∧ All M h2 r := by
  induction L with
  | nil => intro h r x; exact ⟨fun _ => none, h, hle_none _, Hle.refl _, fun _ => .inl rfl, trivial, x⟩
  | cons A L ih =>
    rintro h r ⟨h1, h2, a, b, d, hA, x⟩
    obtain ⟨k1, k2, c1, c2, e, hL, hM⟩ := ih x
    refine ⟨hun h1 k1, k2, hun_le a (c1.trans b), c2.trans b, hdis_hun (d.mono (Hle.refl _) c2) e, ⟨h1, k1, hle_hun_l _ _, hle_hun_r (d.mono (Hle.refl _) c1), d.mono (Hle.refl _) c1, hA, hL⟩, hM⟩

/-- What the world w owns, W the world at the beginning: memory of W is never written. -/
structure Own (W w : World) (L : List Asn) : Prop where
  os : w.os = W.os
  tape : w.tape = W.tape
  output : w.output = W.output
  size : W.heap.size ≤ w.heap.size
  ex : ∃ h r : Hp, Hdis h r ∧ Hle h (fun b => w.heap[b]?) ∧ Hle r (fun b => w.heap[b]?) ∧ (∀ b, b < W.heap.size → r b = W.heap[b]?) ∧ All L h r
section
variable {W w w' : World} {L L' : List Asn} {A B : Asn}
theorem Own.start (W : World) : Own W W [] :=
  ⟨rfl, rfl, rfl, Nat.le_refl _, fun _ => none, fun b => W.heap[b]?, fun _ => .inl rfl, hle_none _, Hle.refl _, fun _ _ => rfl, trivial⟩
theorem Own.below (H : Own W w L) : Below W.heap.size W w := by
  obtain ⟨h, r, _, _, hr, hW, _⟩ := H.ex
  refine ⟨H.os, H.tape, H.output, H.size, fun k hk => ?_⟩
  have e : W.heap[k]? = some W.heap[k] := Array.getElem?_eq_getElem hk
  rw [e]
  exact hr k _ ((hW k hk).trans e)
theorem Own.perm (H : Own W w L) (p : L.Perm L') : Own W w L' := by
  obtain ⟨h, r, d, a, b, c, x⟩ := H.ex
  exact ⟨H.os, H.tape, H.output, H.size, h, r, d, a, b, c, x.perm p⟩
theorem Own.imp (H : Own W w L) (f : ∀ h r, (∀ b, b < W.heap.size → r b = W.heap[b]?) → All L h r → All L' h r) : Own W w L' := by
  obtain ⟨h, r, d, a, b, c, x⟩ := H.ex
  exact ⟨H.os, H.tape, H.output, H.size, h, r, d, a, b, c, f h r c x⟩
theorem Own.imp1 (H : Own W w (A :: L)) (f : ∀ h r, A.holds h r → B.holds h r) : Own W w (B :: L) :=
  H.imp fun _ _ _ ⟨h1, h2, a, b, d, hA, x⟩ => ⟨h1, h2, a, b, d, f _ _ hA, x⟩
theorem Own.drop (H : Own W w (A :: L)) : Own W w L := H.imp fun _ _ _ ⟨_, _, _, b, _, _, x⟩ => x.mono b (Hle.refl _)
theorem Own.front2 {A B : Asn} (H : Own W w (A :: B :: L)) : Own W w (B :: A :: L) := H.perm (.swap _ _ _)
theorem Own.front3 {A B C : Asn} (H : Own W w (A :: B :: C :: L)) : Own W w (C :: A :: B :: L) :=
  H.perm ((List.Perm.cons A (.swap C B L)).trans (.swap C A _))
theorem Own.front4 {A B C D : Asn} (H : Own W w (A :: B :: C :: D :: L)) : Own W w (D :: A :: B :: C :: L) :=
  H.perm (((List.Perm.cons A ((List.Perm.cons B (.swap D C L)).trans (.swap D B _)))).trans (.swap D A _))
theorem perm_front (A : Asn) (M L : List Asn) : (M ++ A :: L).Perm (A :: (M ++ L)) := List.perm_middle
theorem Own.front (M : List Asn) {A : Asn} (H : Own W w (M ++ A :: L)) : Own W w (A :: (M ++ L)) := H.perm (perm_front A M L)
theorem Own.back (M : List Asn) {A : Asn} (H : Own W w (A :: (M ++ L))) : Own W w (M ++ A :: L) := H.perm (perm_front A M L).symm
theorem Own.last {A : Asn} (H : Own W w (A :: L)) : Own W w (L ++ [A]) := H.perm (List.perm_append_singleton A L).symm
theorem Own.front5 {A B C D E : Asn} (H : Own W w (A :: B :: C :: D :: E :: L)) : Own W w (E :: A :: B :: C :: D :: L) := Own.front [A, B, C, D] H
theorem Own.front6 {A B C D E F : Asn} (H : Own W w (A :: B :: C :: D :: E :: F :: L)) : Own W w (F :: A :: B :: C :: D :: E :: L) := Own.front [A, B, C, D, E] H
theorem Own.front7 {A B C D E F G : Asn} (H : Own W w (A :: B :: C :: D :: E :: F :: G :: L)) : Own W w (G :: A :: B :: C :: D :: E :: F :: L) := Own.front [A, B, C, D, E, F] H
theorem Own.front8 {A B C D E F G I : Asn} (H : Own W w (A :: B :: C :: D :: E :: F :: G :: I :: L)) : Own W w (I :: A :: B :: C :: D :: E :: F :: G :: L) := Own.front [A, B, C, D, E, F, G] H
theorem Own.mid2 {A B C : Asn} (H : Own W w (A :: B :: C :: L)) : Own W w (A :: C :: B :: L) := H.perm (.cons _ (perm_front C [B] L))
theorem Own.mid3 {A B C D : Asn} (H : Own W w (A :: B :: C :: D :: L)) : Own W w (A :: D :: B :: C :: L) := H.perm (.cons _ (perm_front D [B, C] L))
theorem Own.mid4 {A B C D E : Asn} (H : Own W w (A :: B :: C :: D :: E :: L)) : Own W w (A :: E :: B :: C :: D :: L) := H.perm (.cons _ (perm_front E [B, C, D] L))
theorem Own.mid5 {A B C D E F : Asn} (H : Own W w (A :: B :: C :: D :: E :: F :: L)) : Own W w (A :: F :: B :: C :: D :: E :: L) := H.perm (.cons _ (perm_front F [B, C, D, E] L))
theorem Own.drop2 {A B : Asn} (H : Own W w (A :: B :: L)) : Own W w (A :: L) := H.front2.drop
theorem Own.drop3 {A B C : Asn} (H : Own W w (A :: B :: C :: L)) : Own W w (A :: B :: L) := H.front3.drop
theorem Own.drop4 {A B C D : Asn} (H : Own W w (A :: B :: C :: D :: L)) : Own W w (A :: B :: C :: L) := H.front4.drop
theorem Own.drop5 {A B C D E : Asn} (H : Own W w (A :: B :: C :: D :: E :: L)) : Own W w (A :: B :: C :: D :: L) := H.front5.drop
theorem Own.back2 {A B : Asn} (H : Own W w (A :: B :: L)) : Own W w (B :: A :: L) := H.front2
theorem Own.back3 {A B C : Asn} (H : Own W w (A :: B :: C :: L)) : Own W w (B :: C :: A :: L) := Own.back [B, C] H
theorem Own.back4 {A B C D : Asn} (H : Own W w (A :: B :: C :: D :: L)) : Own W w (B :: C :: D :: A :: L) := Own.back [B, C, D] H
theorem Own.back5 {A B C D E : Asn} (H : Own W w (A :: B :: C :: D :: E :: L)) : Own W w (B :: C :: D :: E :: A :: L) := Own.back [B, C, D, E] H
theorem Own.back6 {A B C D E F : Asn} (H : Own W w (A :: B :: C :: D :: E :: F :: L)) : Own W w (B :: C :: D :: E :: F :: A :: L) := Own.back [B, C, D, E, F] H
theorem Own.back7 {A B C D E F G : Asn} (H : Own W w (A :: B :: C :: D :: E :: F :: G :: L)) : Own W w (B :: C :: D :: E :: F :: G :: A :: L) := Own.back [B, C, D, E, F, G] H
theorem Own.back8 {A B C D E F G I : Asn} (H : Own W w (A :: B :: C :: D :: E :: F :: G :: I :: L)) : Own W w (B :: C :: D :: E :: F :: G :: I :: A :: L) := Own.back [B, C, D, E, F, G, I] H
end

/-! ### The assertions -/
/-- Block b is o, and is owned. -/
def blk (b : Nat) (o : Obj) : Asn := ⟨fun h _ => h b = some o, fun x _ e => x _ _ e⟩
/-- Block b is o, and is not written any more. -/
def ro (b : Nat) (o : Obj) : Asn := ⟨fun _ r => r b = some o, fun _ y e => y _ _ e⟩
def pur (p : Prop) : Asn := ⟨fun _ _ => p, fun _ _ e => e⟩
def grp (L : List Asn) : Asn := ⟨All L, All.mono⟩
def exi {α : Type} (f : α → Asn) : Asn := ⟨fun h r => ∃ x, (f x).holds h r, fun a b ⟨x, e⟩ => ⟨x, (f x).mono a b e⟩⟩
def emp : Asn := pur True
section
variable {W w w' : World} {L L' M : List Asn} {A B : Asn} {b c : Nat} {o p : Obj}
theorem Own.has (H : Own W w (blk b o :: L)) : w.heap[b]? = some o := by
  obtain ⟨h, r, _, a, _, _, h1, h2, x, _, _, e, _⟩ := H.ex
  exact a _ _ (x _ _ e)
theorem Own.lt (H : Own W w (blk b o :: L)) : b < w.heap.size := (Array.getElem?_eq_some_iff.1 H.has).1
theorem Own.ge (H : Own W w (blk b o :: L)) : W.heap.size ≤ b := by
  obtain ⟨h, r, d, a, _, hW, h1, h2, x, _, _, e, _⟩ := H.ex
  rcases Nat.lt_or_ge b W.heap.size with hb | hb
  · rcases d b with k | k
    · have := x _ _ e; rw [k] at this; cases this
    · rw [hW b hb, Array.getElem?_eq_getElem hb] at k; cases k
  · exact hb
theorem Own.has_ro (H : Own W w (ro b o :: L)) : w.heap[b]? = some o := by
  obtain ⟨h, r, _, _, a, _, h1, h2, _, _, _, e, _⟩ := H.ex
  exact a _ _ e
theorem Own.ne (H : Own W w (blk b o :: blk c p :: L)) : b ≠ c := by
  obtain ⟨h, r, _, _, _, _, h1, h2, _, _, d, e, k1, k2, y, _, _, f, _⟩ := H.ex
  rintro rfl
  rcases d b with k | k
  · have e' : h1 b = some o := e
    rw [k] at e'; cases e'
  · have := y _ _ f; rw [k] at this; cases this
theorem Own.ne_ro (H : Own W w (blk b o :: ro c p :: L)) : b ≠ c := by
  obtain ⟨h, r, dd, _, _, _, h1, h2, x, _, d, e, k1, k2, y, _, _, f, _⟩ := H.ex
  rintro rfl
  rcases dd b with k | k
  · have := x _ _ e; rw [k] at this; cases this
  · have e' : r b = some p := f
    rw [k] at e'; cases e'
theorem Own.pur_iff {q : Prop} : Own W w (pur q :: L) ↔ q ∧ Own W w L := by
  constructor
  · intro H
    exact ⟨by obtain ⟨h, r, _, _, _, _, h1, h2, _, _, _, e, _⟩ := H.ex; exact e, H.drop⟩
  · rintro ⟨hq, H⟩
    exact H.imp fun h r _ x => ⟨fun _ => none, h, hle_none _, Hle.refl _, fun _ => .inl rfl, hq, x⟩
theorem Own.exi_iff {α : Type} {f : α → Asn} : Own W w (exi f :: L) ↔ ∃ x, Own W w (f x :: L) := by
  constructor
  · intro H
    obtain ⟨h, r, d, a, b, c, h1, h2, x1, x2, x3, ⟨x, e⟩, y⟩ := H.ex
    exact ⟨x, H.os, H.tape, H.output, H.size, h, r, d, a, b, c, h1, h2, x1, x2, x3, e, y⟩
  · rintro ⟨x, H⟩
    exact H.imp1 fun _ _ e => ⟨x, e⟩
theorem Own.grp_iff : Own W w (grp M :: L) ↔ Own W w (M ++ L) := by
  constructor
  · intro H
    exact H.imp fun h r _ ⟨h1, h2, a, b, d, x, y⟩ => All.append ⟨h1, h2, a, b, d, x, y⟩
  · intro H
    exact H.imp fun h r _ x => by
      obtain ⟨h1, h2, a, b, d, x, y⟩ := All.of_append x
      exact ⟨h1, h2, a, b, d, x, y⟩
/-- A further assertion that owns nothing. -/
theorem Own.add (H : Own W w L) (f : ∀ r : Hp, (∀ b, b < W.heap.size → r b = W.heap[b]?) → A.holds (fun _ => none) r) : Own W w (A :: L) :=
  H.imp fun h r c x => ⟨fun _ => none, h, hle_none _, Hle.refl _, fun _ => .inl rfl, f r c, x⟩
theorem Own.dup_ro (H : Own W w (ro b o :: L)) : Own W w (ro b o :: ro b o :: L) :=
  H.imp fun h _ _ ⟨h1, h2, a, b, d, e, x⟩ => ⟨fun _ => none, h, hle_none _, Hle.refl _, fun _ => .inl rfl, e, h1, h2, a, b, d, e, x⟩
/-- An owned block is given up to be read only. -/
theorem Own.freeze (H : Own W w (blk b o :: L)) : Own W w (ro b o :: L) := by
  obtain ⟨h, r, d, a, br, hW, h1, h2, x1, x2, x3, e, y⟩ := H.ex
  have hge := H.ge
  have e1 : h1 b = some o := e
  have hb2 : h2 b = none := (x3 b).resolve_left (by rw [e1]; simp)
  have hrb : r b = none := (d b).resolve_left (by rw [x1 _ _ e1]; simp)
  refine ⟨H.os, H.tape, H.output, H.size, h2, fun i => if i = b then some o else r i, ?_, x2.trans a, ?_, ?_, fun _ => none, h2, hle_none _, Hle.refl _, fun _ => .inl rfl, by simp [ro], y.mono (Hle.refl _) ?_⟩
  · intro i
    by_cases hi : i = b
    · subst hi; exact .inl hb2
    · rcases (d.mono x2 (Hle.refl _)) i with k | k
      · exact .inl k
      · exact .inr (by simp [hi, k])
  · intro i q hq
    by_cases hi : i = b
    · subst hi; simp at hq; subst hq; exact H.has
    · simp [hi] at hq; exact br _ _ hq
  · intro i hi
    have : i ≠ b := by omega
    simp [this, hW i hi]
  · intro i q hq
    by_cases hi : i = b
    · subst hi; rw [hrb] at hq; cases hq
    · simp [hi, hq]
/-- An owned block has been turned, and blocks have been made. -/
theorem Own.upd (H : Own W w (blk b o :: L)) (hg : w.grownBy w' (some b)) (hb : w'.heap[b]? = some p) : Own W w' (blk b p :: L) := by
  obtain ⟨h, r, d, a, br, hW, h1, h2, x1, x2, x3, e, y⟩ := H.ex
  have hge := H.ge
  have e1 : h1 b = some o := e
  have hb2 : h2 b = none := (x3 b).resolve_left (by rw [e1]; simp)
  have hrb : r b = none := (d b).resolve_left (by rw [x1 _ _ e1]; simp)
  have keep : ∀ i q, i ≠ b → w.heap[i]? = some q → w'.heap[i]? = some q := fun i q hi hq => by
    have hlt := (Array.getElem?_eq_some_iff.1 hq).1
    rw [hg.block i hlt (by simpa using hi)]; exact hq
  refine ⟨hg.os.trans H.os, hg.tape.trans H.tape, hg.output.trans H.output, Nat.le_trans H.size hg.size, fun i => if i = b then some p else h2 i, r, ?_, ?_, ?_, hW, fun i => if i = b then some p else none, h2, ?_, ?_, ?_, by simp [blk], y⟩
  · intro i
    by_cases hi : i = b
    · subst hi; exact .inr hrb
    · rcases (d.mono x2 (Hle.refl _)) i with k | k
      · exact .inl (by simp [hi, k])
      · exact .inr k
  · intro i q hq
    by_cases hi : i = b
    · subst hi; simp at hq; subst hq; exact hb
    · simp [hi] at hq; exact keep _ _ hi (a _ _ (x2 _ _ hq))
  · intro i q hq
    have hi : i ≠ b := by rintro rfl; rw [hrb] at hq; cases hq
    exact keep _ _ hi (br _ _ hq)
  · intro i q hq
    by_cases hi : i = b
    · simpa [hi] using hq
    · simp [hi] at hq
  · intro i q hq
    have hi : i ≠ b := by rintro rfl; rw [hb2] at hq; cases hq
    simp [hi, hq]
  · intro i
    by_cases hi : i = b
    · subst hi; exact .inr hb2
    · exact .inl (by simp [hi])
/-- Blocks have been made; nothing that was there has turned. -/
theorem Own.grown (H : Own W w L) (hb : Below w.heap.size w w') : Own W w' L := by
  obtain ⟨h, r, d, a, br, hW, y⟩ := H.ex
  have keep : ∀ i q, w.heap[i]? = some q → w'.heap[i]? = some q := fun i q hq => by
    have hlt := (Array.getElem?_eq_some_iff.1 hq).1
    rw [hb.block i hlt]; exact hq
  exact ⟨hb.os.trans H.os, hb.tape.trans H.tape, hb.output.trans H.output, Nat.le_trans H.size hb.size, h, r, d, fun i q hq => keep _ _ (a _ _ hq), fun i q hq => keep _ _ (br _ _ hq), hW, y⟩
/-- .. and one of the new blocks is taken. -/
theorem Own.take (H : Own W w L) (hb : Below w.heap.size w w') (hc : w.heap.size ≤ c) (ho : w'.heap[c]? = some o) : Own W w' (blk c o :: L) := by
  obtain ⟨h, r, d, a, br, hW, y⟩ := H.ex
  have keep : ∀ i q, w.heap[i]? = some q → w'.heap[i]? = some q := fun i q hq => by
    have hlt := (Array.getElem?_eq_some_iff.1 hq).1
    rw [hb.block i hlt]; exact hq
  have hcn : w.heap[c]? = none := Array.getElem?_eq_none hc
  have hhc : h c = none := a.none hcn
  have hrc : r c = none := br.none hcn
  refine ⟨hb.os.trans H.os, hb.tape.trans H.tape, hb.output.trans H.output, Nat.le_trans H.size hb.size, fun i => if i = c then some o else h i, r, ?_, ?_, fun i q hq => keep _ _ (br _ _ hq), hW, fun i => if i = c then some o else none, h, ?_, ?_, ?_, by simp [blk], y⟩
  · intro i
    by_cases hi : i = c
    · subst hi; exact .inr hrc
    · rcases d i with k | k
      · exact .inl (by simp [hi, k])
      · exact .inr k
  · intro i q hq
    by_cases hi : i = c
    · subst hi; simp at hq; subst hq; exact ho
    · simp [hi] at hq; exact keep _ _ (a _ _ hq)
  · intro i q hq
    by_cases hi : i = c
    · simpa [hi] using hq
    · simp [hi] at hq
  · intro i q hq
    have hi : i ≠ c := by rintro rfl; rw [hhc] at hq; cases hq
    simp [hi, hq]
  · intro i
    by_cases hi : i = c
    · subst hi; exact .inr hhc
    · exact .inl (by simp [hi])
theorem Own.alloc (H : Own W w L) (o : Obj) : Own W (w.alloc o) (blk w.heap.size o :: L) :=
  H.take ((Below.refl _ _).alloc (Nat.le_refl _) _) (Nat.le_refl _) (heap_alloc_new w o)
theorem Own.skip (H : Own W w L) (o : Obj) : Own W (w.alloc o) L := H.grown ((Below.refl _ _).alloc (Nat.le_refl _) _)
theorem Own.drew (H : Own W w L) : Own W w.drew L := H.grown (Below.refl _ _).drew
theorem below_drewN (w : World) (n : Nat) : Below w.heap.size w (w.drewN n) := ⟨rfl, rfl, rfl, Nat.le_refl _, fun _ _ => rfl⟩
theorem Own.drewN (H : Own W w L) (n : Nat) : Own W (w.drewN n) L := H.grown (Sk.below_drewN w n)
theorem grownBy_setCell (w : World) (b i : Nat) (v : Value) : w.grownBy (w.setCell ⟨b, i, none⟩ v) (some b) :=
  ⟨rfl, rfl, rfl, by simp, fun k _ hne => Below.heap_setCell w ⟨b, i, none⟩ v k (by simpa using hne)⟩
theorem Own.set {cs : Array Value} {t : TypeId} {f : Nat × Nat} (H : Own W w (blk b (.cells cs t f) :: L)) (i : Nat) (v : Value) :
    Own W (w.setCell ⟨b, i, none⟩ v) (blk b (.cells (cs.setIfInBounds i v) t f) :: L) :=
  H.upd (grownBy_setCell w b i v) (by
    have h := H.has
    simp [World.setCell, Array.getElem?_modify, h])
theorem Own.setObj (H : Own W w (blk b o :: L)) (q : Obj) : Own W { w with heap := w.heap.setIfInBounds b q } (blk b q :: L) :=
  H.upd ⟨rfl, rfl, rfl, by simp, fun k _ hne => by
    have : k ≠ b := by simpa using hne
    simp [this.symm]⟩ (by
    have := H.lt
    simp [this])
theorem Own.cell {cs : Array Value} {t : TypeId} {f : Nat × Nat} (H : Own W w (blk b (.cells cs t f) :: L)) : ∀ i, w.cell? ⟨b, i, none⟩ = cs[i]? := by
  intro i
  simp [World.cell?, H.has]
theorem Own.free {cs : Array Value} {t : TypeId} (H : Own W w (blk b (.cells cs t (0, 0)) :: L)) : ∀ i, w.frozen? ⟨b, i, none⟩ = false := by
  intro i
  simp [World.frozen?, H.has]
end
/-- Nothing that was there has turned. -/
abbrev Bel (w w' : World) : Prop := Below w.heap.size w w'
section
variable {a b c w : World}
theorem Bel.refl (w : World) : Bel w w := Below.refl _ _
theorem Bel.trans (h : Bel a b) (k : Bel b c) : Bel a c := Below.trans h (Below.mono k h.size)
theorem Bel.alloc (h : Bel a b) (o : Obj) : Bel a (b.alloc o) := Below.alloc h h.size o
theorem Bel.drew (h : Bel a b) : Bel a b.drew := Below.drew h
theorem Bel.drewN (h : Bel a b) (n : Nat) : Bel a (b.drewN n) := h.trans (Sk.below_drewN b n)
theorem Bel.set (h : Bel a b) {g i : Nat} (hg : a.heap.size ≤ g) (v : Value) : Bel a (b.setCell ⟨g, i, none⟩ v) := Below.setCell h (p := ⟨g, i, none⟩) hg v
theorem Bel.blk (h : Bel a b) {g : Nat} {o : Obj} (hg : a.heap[g]? = some o) : b.heap[g]? = some o := by
  have hlt := (Array.getElem?_eq_some_iff.1 hg).1
  rw [h.block g hlt]; exact hg
theorem Bel.cell (h : Bel a b) {g i : Nat} (hg : g < a.heap.size) : b.cell? ⟨g, i, none⟩ = a.cell? ⟨g, i, none⟩ := Below.cell h (p := ⟨g, i, none⟩) hg
end
@[reducible] def ptr (b : Nat) : Value := .pointer (some ⟨b, 0, none⟩)
theorem ret_v {a b : Value} (h : b = a) : Ending.returned a = .returned b := by rw [h]
end Sk
/- Assertions picked by their places. -/
namespace Sk
open Go Go.RowKit
def mvf {α : Type} : Nat → List α → List α
  | 0, L => L
  | _ + 1, [] => []
  | i + 1, a :: L => match mvf i L with
    | [] => [a]
    | b :: M => b :: a :: M
theorem mvf_perm {α : Type} : ∀ (i : Nat) (L : List α), (mvf i L).Perm L
  | 0, L => .refl L
  | _ + 1, [] => .refl _
  | i + 1, a :: L => by
    have h := mvf_perm i L
    unfold mvf
    split
    · rename_i e; rw [e] at h; exact .cons _ h
    · rename_i b M e; rw [e] at h; exact (List.Perm.swap a b M).trans (.cons a h)
/-- The assertions at these places (counted before anything moves), in this order, then the others. -/
def sel {α : Type} : List Nat → List α → List α
  | [], L => L
  | i :: is, L => mvf (i + (is.filter (fun j => i < j)).length) (sel is L)
theorem sel_perm {α : Type} : ∀ (is : List Nat) (L : List α), (sel is L).Perm L
  | [], L => .refl L
  | _ :: is, L => (mvf_perm _ _).trans (sel_perm is L)
theorem Own.sel {W w : World} {L : List Asn} (H : Own W w L) (is : List Nat) : Own W w (Sk.sel is L) := H.perm (sel_perm is L).symm
theorem Own.unsel {W w : World} {L : List Asn} (is : List Nat) (H : Own W w (Sk.sel is L)) : Own W w L := H.perm (sel_perm is L)
theorem Own.grp_mk {W w : World} {L : List Asn} (M : List Asn) (H : Own W w (M ++ L)) : Own W w (grp M :: L) := Own.grp_iff.2 H
end Sk
/- Maps in memory: a block whose entries are a finite function; lookup, store, delete, clear, range. -/
namespace Sk
open Go Go.RowKit
open Go.Maps (Keyed)

/-- The entries es (the clock ck) are the finite function f. -/
structure MRep {K V : Type} (ke : K → Value) (ve : K → V → Value) (es : Array MapEntry) (ck : Nat) (f : K → Option V) : Prop where
  keys : ∀ e ∈ es.toList, ∃ k v, e.key = ke k ∧ f k = some v ∧ e.val = ve k v
  all : ∀ k v, f k = some v → ∃ e ∈ es.toList, e.key = ke k
  dis : es.toList.Pairwise (fun a b => a.key ≠ b.key)
  born : es.toList.Pairwise (fun a b => a.born ≠ b.born)
  low : ∀ e ∈ es.toList, e.born < ck

section
variable {K V : Type} {ke : K → Value} {ve : K → V → Value} {es : Array MapEntry} {ck : Nat} {f : K → Option V} {P : Program} {kt t e : TypeId} {w : World} {b : Nat}
theorem MRep.empty (ck : Nat) : MRep ke ve #[] ck (fun _ => none) :=
  ⟨fun _ h => (by simp at h), fun _ _ h => (by cases h), by simp, by simp, fun _ h => (by simp at h)⟩
theorem MRep.val (M : MRep ke ve es ck f) (inj : ∀ a b, ke a = ke b → a = b) {x : MapEntry} (hx : x ∈ es.toList) {k : K} (hk : x.key = ke k) : ∃ v, f k = some v ∧ x.val = ve k v := by
  obtain ⟨k', v, h1, h2, h3⟩ := M.keys x hx
  have := inj _ _ (hk.symm.trans h1)
  subst this
  exact ⟨v, h2, h3⟩
theorem MRep.absent (M : MRep ke ve es ck f) {k : K} (h : ∀ x ∈ es.toList, x.key ≠ ke k) : f k = none := by
  cases hf : f k with
  | none => rfl
  | some v => obtain ⟨x, hx, hk⟩ := M.all k v hf; exact absurd hk (h x hx)
/-- What a look-up comes to. -/
theorem run_lookup_rep (c : Bool) (KK : Keyed P kt) (ht : P.underlying t = some (.map kt e)) {z : Value} (hz : (zeroValue e).run P w = .ok z w) (hb : w.heap[b]? = some (.map es ck)) (M : MRep ke ve es ck f)
    (inj : ∀ a b, ke a = ke b → a = b) (hall : ∀ k v, f k = some v → ∃ l, keyOf P kt (ke k) = some l) {k : K} {l : Lit} (hl : keyOf P kt (ke k) = some l) :
    (Instr.lookup t (.map (some b)) (ke k) c).run P w = .ok (if c then .tuple #[((f k).map (ve k)).getD z, .bool (f k).isSome] else ((f k).map (ve k)).getD z) w := by
  have hk : ∀ x ∈ es.toList, ∃ l, keyOf P kt x.key = some l := fun x hx => by
    obtain ⟨k', v, h1, h2, _⟩ := M.keys x hx
    rw [h1]; exact hall k' v h2
  rcases KK.find w hl es.toList hk with ⟨h1, h2⟩ | ⟨j, x, h1, h2, h3⟩
  · rw [M.absent h2]
    simp [Instr.lookup, run_underlying ht, MapKept.run_getObj_map hb, KK.check w _ hl, h1, hz, Result.andThen]
  · obtain ⟨v, hv, hx⟩ := M.val inj (List.mem_of_getElem? h2) h3
    rw [hv]
    simp [Instr.lookup, run_underlying ht, MapKept.run_getObj_map hb, KK.check w _ hl, h1, Result.andThen, hx]
/-- The function, changed at one place. -/
def fset [DecidableEq K] (f : K → Option V) (k : K) (v : Option V) : K → Option V := fun i => if i = k then v else f i
variable [DecidableEq K]
theorem MRep.store_old (M : MRep ke ve es ck f) (inj : ∀ a b, ke a = ke b → a = b) {k : K} {j : Nat} {x : MapEntry} (hj : es.toList[j]? = some x) (hx : x.key = ke k) (v : V) :
    MRep ke ve (es.modify j fun e => { e with key := ke k, val := ve k v }) ck (fset f k (some v)) := by
  have hjl : j < es.size := by simpa using (List.getElem?_eq_some_iff.1 hj).1
  have hl : (es.modify j fun e => { e with key := ke k, val := ve k v }).toList = es.toList.set j { x with key := ke k, val := ve k v } := by
    have hxe : es[j] = x := by
      have := (List.getElem?_eq_some_iff.1 hj).2; simpa using this
    apply List.ext_getElem?
    intro i
    simp only [Array.getElem?_toList, Array.getElem?_modify, List.getElem?_set, Array.length_toList]
    by_cases h : j = i
    · subst h; simp [hjl, hxe]
    · simp [h]
  have hpl : ∀ {R : MapEntry → MapEntry → Prop}, es.toList.Pairwise R → (∀ y, y ∈ es.toList → R x y → R { x with key := ke k, val := ve k v } y) → (∀ y, y ∈ es.toList → R y x → R y { x with key := ke k, val := ve k v }) → (es.toList.set j { x with key := ke k, val := ve k v }).Pairwise R := by
    intro R hp h1 h2
    rw [List.pairwise_iff_getElem] at hp ⊢
    intro a c ha hc hac
    have ha' : a < es.toList.length := by simpa using ha
    have hc' : c < es.toList.length := by simpa using hc
    have hxe : es.toList[j]'(by simpa using hjl) = x := (List.getElem?_eq_some_iff.1 hj).2
    rw [List.getElem_set, List.getElem_set]
    split
    · rename_i h; subst h
      split
      · omega
      · exact h1 _ (List.getElem_mem hc') (hxe ▸ hp _ _ ha' hc' hac)
    · split
      · rename_i h; subst h
        exact h2 _ (List.getElem_mem ha') (hxe ▸ hp _ _ ha' hc' hac)
      · exact hp _ _ ha' hc' hac
  constructor
  · intro y hy
    rw [hl] at hy
    rw [List.mem_iff_getElem?] at hy
    obtain ⟨i, hi⟩ := hy
    rw [List.getElem?_set] at hi
    split at hi
    · split at hi
      · cases hi; exact ⟨k, v, rfl, by simp [fset], rfl⟩
      · cases hi
    · rename_i hne
      obtain ⟨k', v', e1, e2, e3⟩ := M.keys y (List.mem_of_getElem? hi)
      refine ⟨k', v', e1, ?_, e3⟩
      have : k' ≠ k := by
        rintro rfl
        have hp := M.dis
        rw [List.pairwise_iff_getElem] at hp
        obtain ⟨hi1, hi2⟩ := List.getElem?_eq_some_iff.1 hi
        obtain ⟨hj1, hj2⟩ := List.getElem?_eq_some_iff.1 hj
        rcases Nat.lt_or_gt_of_ne hne with h | h
        · exact hp j i hj1 hi1 h (by rw [hi2, hj2, hx, e1])
        · exact hp i j hi1 hj1 h (by rw [hi2, hj2, hx, e1])
      simp [fset, this, e2]
  · intro k' v' h
    rw [hl]
    by_cases hk : k' = k
    · subst hk
      exact ⟨{ x with key := ke k', val := ve k' v }, List.mem_of_getElem? (i := j) (by rw [List.getElem?_set]; simp; exact hjl), rfl⟩
    · simp [fset, hk] at h
      obtain ⟨y, hy, e1⟩ := M.all k' v' h
      obtain ⟨i, hi⟩ := List.mem_iff_getElem?.1 hy
      refine ⟨y, List.mem_of_getElem? (i := i) ?_, e1⟩
      rw [List.getElem?_set, if_neg]
      · exact hi
      · rintro rfl
        rw [hj] at hi; cases hi
        exact hk (inj _ _ (e1.symm.trans hx))
  · rw [hl]
    exact hpl M.dis (fun y _ h => by simpa [hx] using h) (fun y _ h => by simpa [hx] using h)
  · rw [hl]
    exact hpl M.born (fun y _ h => h) (fun y _ h => h)
  · intro y hy
    rw [hl] at hy
    rcases List.mem_or_eq_of_mem_set hy with h | h
    · exact M.low y h
    · subst h; exact M.low x (List.mem_of_getElem? hj)
theorem MRep.store_new (M : MRep ke ve es ck f) {k : K} (hn : ∀ x ∈ es.toList, x.key ≠ ke k) (v : V) :
    MRep ke ve (es.push { key := ke k, val := ve k v, born := ck }) (ck + 1) (fset f k (some v)) := by
  constructor
  · intro y hy
    simp only [Array.toList_push, List.mem_append, List.mem_singleton] at hy
    rcases hy with hy | rfl
    · obtain ⟨k', v', e1, e2, e3⟩ := M.keys y hy
      refine ⟨k', v', e1, ?_, e3⟩
      have : k' ≠ k := by rintro rfl; exact hn y hy e1
      simp [fset, this, e2]
    · exact ⟨k, v, rfl, by simp [fset], rfl⟩
  · intro k' v' h
    by_cases hk : k' = k
    · subst hk; exact ⟨{ key := ke k', val := ve k' v, born := ck }, by simp, rfl⟩
    · simp [fset, hk] at h
      obtain ⟨y, hy, e1⟩ := M.all k' v' h
      exact ⟨y, by simp only [Array.toList_push, List.mem_append]; exact .inl hy, e1⟩
  · simp only [Array.toList_push]
    rw [List.pairwise_append]
    exact ⟨M.dis, by simp, fun a ha c hc => by simp at hc; subst hc; exact hn a ha⟩
  · simp only [Array.toList_push]
    rw [List.pairwise_append]
    exact ⟨M.born, by simp, fun a ha c hc => by simp at hc; subst hc; have := M.low a ha; simp; omega⟩
  · intro y hy
    simp only [Array.toList_push, List.mem_append, List.mem_singleton] at hy
    rcases hy with hy | rfl
    · have := M.low y hy; omega
    · simp
theorem run_mapUpdate_rep (KK : Keyed P kt) (ht : P.underlying t = some (.map kt e)) (hb : w.heap[b]? = some (.map es ck)) (M : MRep ke ve es ck f)
    (inj : ∀ a b, ke a = ke b → a = b) (hall : ∀ k v, f k = some v → ∃ l, keyOf P kt (ke k) = some l) {k : K} {l : Lit} (hl : keyOf P kt (ke k) = some l) (v : V) :
    ∃ es' ck', (Instr.mapUpdate t (.map (some b)) (ke k) (ve k v)).run P w = .ok () (ChangeMaps.setBlock w b (.map es' ck')) ∧ MRep ke ve es' ck' (fset f k (some v)) := by
  have hk : ∀ x ∈ es.toList, ∃ l, keyOf P kt x.key = some l := fun x hx => by
    obtain ⟨k', v, h1, h2, _⟩ := M.keys x hx
    rw [h1]; exact hall k' v h2
  rcases KK.find w hl es.toList hk with ⟨h1, h2⟩ | ⟨j, x, h1, h2, h3⟩
  · refine ⟨_, _, ?_, M.store_new h2 v⟩
    simp [Instr.mapUpdate, run_underlying ht, MapKept.run_getObj_map hb, KK.check w _ hl, h1, Result.andThen, MapKept.run_setObj_map _ hb, ChangeMaps.setBlock]
  · refine ⟨_, _, ?_, M.store_old inj h2 h3 v⟩
    have h2' : es[j]? = some x := by simpa using h2
    simp [Instr.mapUpdate, run_underlying ht, MapKept.run_getObj_map hb, KK.check w _ hl, h1, Result.andThen, MapKept.run_setObj_map _ hb, ChangeMaps.setBlock, h2', h3, KK.stays w hl]
theorem MRep.erase (M : MRep ke ve es ck f) (inj : ∀ a b, ke a = ke b → a = b) {k : K} {j : Nat} {x : MapEntry} (hj : es.toList[j]? = some x) (hx : x.key = ke k) : MRep ke ve (es.eraseIdxIfInBounds j) ck (fset f k none) := by
  have hjl : j < es.size := by simpa using (List.getElem?_eq_some_iff.1 hj).1
  have hl : (es.eraseIdxIfInBounds j).toList = es.toList.eraseIdx j := by
    unfold Array.eraseIdxIfInBounds
    rw [dif_pos hjl, Array.toList_eraseIdx]
  have hsub : (es.toList.eraseIdx j).Sublist es.toList := List.eraseIdx_sublist _ _
  have hne : ∀ y ∈ es.toList.eraseIdx j, y.key ≠ ke k := by
    intro y hy hyk
    have hp := M.dis
    rw [List.pairwise_iff_getElem] at hp
    obtain ⟨i, hi⟩ := List.mem_iff_getElem?.1 hy
    obtain ⟨hj1, hj2⟩ := List.getElem?_eq_some_iff.1 hj
    rw [List.getElem?_eraseIdx] at hi
    split at hi
    · obtain ⟨hi1, hi2⟩ := List.getElem?_eq_some_iff.1 hi
      exact hp i j hi1 hj1 (by omega) (by rw [hi2, hj2, hyk, hx])
    · obtain ⟨hi1, hi2⟩ := List.getElem?_eq_some_iff.1 hi
      exact hp j (i + 1) hj1 hi1 (by omega) (by rw [hi2, hj2, hyk, hx])
  constructor
  · intro y hy
    rw [hl] at hy
    obtain ⟨k', v', e1, e2, e3⟩ := M.keys y (hsub.subset hy)
    refine ⟨k', v', e1, ?_, e3⟩
    have : k' ≠ k := by rintro rfl; exact hne y hy e1
    simp [fset, this, e2]
  · intro k' v' h
    by_cases hk : k' = k
    · subst hk; simp [fset] at h
    · simp [fset, hk] at h
      obtain ⟨y, hy, e1⟩ := M.all k' v' h
      rw [hl]
      refine ⟨y, ?_, e1⟩
      obtain ⟨i, hi⟩ := List.mem_iff_getElem?.1 hy
      have hij : i ≠ j := by
        rintro rfl
        rw [hj] at hi; cases hi
        exact hk (inj _ _ (e1.symm.trans hx))
      rcases Nat.lt_or_gt_of_ne hij with h | h
      · exact List.mem_of_getElem? (i := i) (by rw [List.getElem?_eraseIdx, if_pos h]; exact hi)
      · exact List.mem_of_getElem? (i := i - 1) (by rw [List.getElem?_eraseIdx, if_neg (by omega), show i - 1 + 1 = i from by omega]; exact hi)
  · rw [hl]; exact M.dis.sublist hsub
  · rw [hl]; exact M.born.sublist hsub
  · intro y hy; rw [hl] at hy; exact M.low y (hsub.subset hy)
theorem run_delete_rep (KK : Keyed P kt) (ht : P.underlying t = some (.map kt e)) (hb : w.heap[b]? = some (.map es ck)) (M : MRep ke ve es ck f) {ty : TypeId}
    (inj : ∀ a b, ke a = ke b → a = b) (hall : ∀ k v, f k = some v → ∃ l, keyOf P kt (ke k) = some l) {k : K} {l : Lit} (hl : keyOf P kt (ke k) = some l) :
    ∃ es', (Builtin.delete_ #[t, kt] ty #[.map (some b), ke k]).run P w = .ok (.tuple #[]) (ChangeMaps.setBlock w b (.map es' ck)) ∧ MRep ke ve es' ck (fset f k none) ∧
      (∀ y ∈ es'.toList, y ∈ es.toList) ∧ (∀ y ∈ es.toList, y.key ≠ ke k → y ∈ es'.toList) := by
  have hk : ∀ x ∈ es.toList, ∃ l, keyOf P kt x.key = some l := fun x hx => by
    obtain ⟨k', v, h1, h2, _⟩ := M.keys x hx
    rw [h1]; exact hall k' v h2
  rcases KK.find w hl es.toList hk with ⟨h1, h2⟩ | ⟨j, x, h1, h2, h3⟩
  · refine ⟨es, ?_, ?_, fun _ h => h, fun _ h _ => h⟩
    · simp [Builtin.delete_, run_underlying ht, MapKept.run_getObj_map hb, KK.check w _ hl, h1, MapKept.run_setObj_map _ hb, Result.andThen, ChangeMaps.setBlock]
    · have hn := M.absent h2
      have : fset f k none = f := by funext i; unfold fset; split <;> simp_all
      rw [this]; exact M
  · have hjl : j < es.size := by simpa using (List.getElem?_eq_some_iff.1 h2).1
    have hE : (es.eraseIdxIfInBounds j).toList = es.toList.eraseIdx j := by
      unfold Array.eraseIdxIfInBounds
      rw [dif_pos hjl, Array.toList_eraseIdx]
    refine ⟨es.eraseIdxIfInBounds j, ?_, M.erase inj h2 h3, ?_, ?_⟩
    · simp [Builtin.delete_, run_underlying ht, MapKept.run_getObj_map hb, KK.check w _ hl, h1, MapKept.run_setObj_map _ hb, Result.andThen, ChangeMaps.setBlock]
    · intro y hy
      rw [hE] at hy
      exact (List.eraseIdx_sublist _ _).subset hy
    · intro y hy hne
      rw [hE]
      obtain ⟨i, hi⟩ := List.mem_iff_getElem?.1 hy
      have hij : i ≠ j := by
        rintro rfl
        rw [h2] at hi; cases hi
        exact hne h3
      rcases Nat.lt_or_gt_of_ne hij with h | h
      · exact List.mem_of_getElem? (i := i) (by rw [List.getElem?_eraseIdx, if_pos h]; exact hi)
      · exact List.mem_of_getElem? (i := i - 1) (by rw [List.getElem?_eraseIdx, if_neg (by omega), show i - 1 + 1 = i from by omega]; exact hi)
end
end Sk
namespace Sk
open Go Go.RowKit
open Go.Maps (Keyed)
/-- What is known of a map's type: its number t, its key's kt, its element's e; z is the element's zero value. -/
structure MapT (P : Program) (t kt e : TypeId) {K : Type} (ke : K → Value) (good : K → Prop) (z : Value) : Prop where
  keyed : Keyed P kt
  type : P.underlying t = some (.map kt e)
  zero : ∀ w, (zeroValue e).run P w = .ok z w
  inj : ∀ a b, ke a = ke b → a = b
  key : ∀ k, good k → ∃ l, keyOf P kt (ke k) = some l
/-- Block b is a map that is the finite function f. -/
def mapA {K V : Type} (ke : K → Value) (ve : K → V → Value) (good : K → Prop) (b : Nat) (f : K → Option V) : Asn :=
  exi fun p : Array MapEntry × Nat => grp [pur (MRep ke ve p.1 p.2 f ∧ ∀ k v, f k = some v → good k), blk b (.map p.1 p.2)]
section
variable {K V : Type} {ke : K → Value} {ve : K → V → Value} {good : K → Prop} {f : K → Option V} {P : Program} {kt t e : TypeId} {W w : World} {b : Nat} {L : List Asn} {z : Value}
theorem Own.map_open (H : Own W w (mapA ke ve good b f :: L)) : ∃ es ck, MRep ke ve es ck f ∧ (∀ k v, f k = some v → good k) ∧ Own W w (blk b (.map es ck) :: L) := by
  obtain ⟨⟨es, ck⟩, H⟩ := Own.exi_iff.1 H
  have H := Own.grp_iff.1 H
  obtain ⟨⟨M, g⟩, H⟩ := Own.pur_iff.1 H
  exact ⟨es, ck, M, g, H⟩
theorem Own.map_shut {es : Array MapEntry} {ck : Nat} (H : Own W w (blk b (.map es ck) :: L)) (M : MRep ke ve es ck f) (g : ∀ k v, f k = some v → good k) : Own W w (mapA ke ve good b f :: L) :=
  Own.exi_iff.2 ⟨(es, ck), Own.grp_iff.2 (Own.pur_iff.2 ⟨⟨M, g⟩, H⟩)⟩
theorem Own.map_lt (H : Own W w (mapA ke ve good b f :: L)) : b < w.heap.size := by
  obtain ⟨_, _, _, _, H⟩ := H.map_open
  exact H.lt
theorem Own.made (H : Own W w L) (ke : K → Value) (ve : K → V → Value) (good : K → Prop) : Own W (w.alloc (.map #[] 0)) (mapA ke ve good w.heap.size (fun _ => none) :: L) :=
  (H.alloc _).map_shut (.empty 0) (fun _ _ h => by cases h)
theorem Own.lookup (H : Own W w (mapA ke ve good b f :: L)) (T : MapT P t kt e ke good z) (c : Bool) {k : K} (hk : good k) :
    (Instr.lookup t (.map (some b)) (ke k) c).run P w = .ok (if c then .tuple #[((f k).map (ve k)).getD z, .bool (f k).isSome] else ((f k).map (ve k)).getD z) w := by
  obtain ⟨es, ck, M, g, H⟩ := H.map_open
  obtain ⟨l, hl⟩ := T.key k hk
  exact run_lookup_rep c T.keyed T.type (T.zero w) H.has M T.inj (fun k v h => T.key k (g k v h)) hl
theorem Own.lookup_none (H : Own W w (mapA ke ve good b f :: L)) (T : MapT P t kt e ke good z) {k : K} (hk : good k) (hf : f k = none) :
    (Instr.lookup t (.map (some b)) (ke k) true).run P w = .ok (.tuple #[z, .bool false]) w := by
  have h := H.lookup T true hk
  simpa [hf] using h
theorem Own.lookup_some (H : Own W w (mapA ke ve good b f :: L)) (T : MapT P t kt e ke good z) {k : K} (hk : good k) {v : V} (hf : f k = some v) :
    (Instr.lookup t (.map (some b)) (ke k) true).run P w = .ok (.tuple #[ve k v, .bool true]) w := by
  have h := H.lookup T true hk
  simpa [hf] using h
theorem Own.lookup_some1 (H : Own W w (mapA ke ve good b f :: L)) (T : MapT P t kt e ke good z) {k : K} (hk : good k) {v : V} (hf : f k = some v) :
    (Instr.lookup t (.map (some b)) (ke k) false).run P w = .ok (ve k v) w := by
  have h := H.lookup T false hk
  simpa [hf] using h
theorem setBlock_grown (w : World) (b : Nat) (o : Obj) : w.grownBy (ChangeMaps.setBlock w b o) (some b) :=
  ⟨rfl, rfl, rfl, by simp [ChangeMaps.setBlock], fun i _ hi => by
    have : b ≠ i := fun h => hi (by rw [h])
    simp [ChangeMaps.setBlock, this]⟩
theorem Own.setBlock {o : Obj} (H : Own W w (blk b o :: L)) (q : Obj) : Own W (ChangeMaps.setBlock w b q) (blk b q :: L) :=
  H.upd (setBlock_grown w b q) (by have := H.lt; simp [ChangeMaps.setBlock, this])
variable [DecidableEq K]
theorem Own.store (H : Own W w (mapA ke ve good b f :: L)) (T : MapT P t kt e ke good z) {k : K} (hk : good k) (v : V) :
    ∃ w', (Instr.mapUpdate t (.map (some b)) (ke k) (ve k v)).run P w = .ok () w' ∧ Own W w' (mapA ke ve good b (fset f k (some v)) :: L) := by
  obtain ⟨es, ck, M, g, H⟩ := H.map_open
  obtain ⟨l, hl⟩ := T.key k hk
  obtain ⟨es', ck', hrun, M'⟩ := run_mapUpdate_rep T.keyed T.type H.has M T.inj (fun k v h => T.key k (g k v h)) hl v
  refine ⟨_, hrun, (H.setBlock _).map_shut M' fun k' v' h => ?_⟩
  by_cases hkk : k' = k
  · subst hkk; exact hk
  · exact g k' v' (by simpa [fset, hkk] using h)
theorem Own.delete (H : Own W w (mapA ke ve good b f :: L)) (T : MapT P t kt e ke good z) {k : K} (hk : good k) (ty : TypeId) :
    ∃ w', (Builtin.delete_ #[t, kt] ty #[.map (some b), ke k]).run P w = .ok (.tuple #[]) w' ∧ Own W w' (mapA ke ve good b (fset f k none) :: L) := by
  obtain ⟨es, ck, M, g, H⟩ := H.map_open
  obtain ⟨l, hl⟩ := T.key k hk
  obtain ⟨es', hrun, M', _⟩ := run_delete_rep (ty := ty) T.keyed T.type H.has M T.inj (fun k v h => T.key k (g k v h)) hl
  refine ⟨_, hrun, (H.setBlock _).map_shut M' fun k' v' h => ?_⟩
  by_cases hkk : k' = k
  · subst hkk; exact hk
  · exact g k' v' (by simpa [fset, hkk] using h)
theorem Own.clear (H : Own W w (mapA ke ve good b f :: L)) (T : MapT P t kt e ke good z) (ty : TypeId) :
    ∃ w', (Builtin.clear_ #[t] ty #[.map (some b)]).run P w = .ok (.tuple #[]) w' ∧ Own W w' (mapA ke ve good b (fun _ => none) :: L) := by
  obtain ⟨es, ck, M, g, H⟩ := H.map_open
  refine ⟨_, ?_, (H.setBlock (.map #[] ck)).map_shut (.empty ck) (fun _ _ h => by cases h)⟩
  simp [Builtin.clear_, run_underlying T.type, MapKept.run_getObj_map H.has, MapKept.run_setObj_map _ H.has, Result.andThen, ChangeMaps.setBlock]
end
/-- An int as a key. -/
@[reducible] def ik (k : Int) : Value := .int .i64 k
def goodInt (k : Int) : Prop := (Lit.int .i64 k).wf = true
theorem goodInt_of {k : Int} (h0 : -9223372036854775808 ≤ k) (h1 : k ≤ 9223372036854775807) : goodInt k := WalkArith.wf_i64 ⟨h0, h1⟩
theorem ik_inj (a b : Int) (h : ik a = ik b) : a = b := by cases h; rfl
end Sk
/- Regions that draw their order: the kit's laws, the world written as a draw. -/
namespace Sk
open Go Go.RowKit
/-- What an old cell holds is what it held: a rule for the walk. -/
theorem Bel.rule {a b : World} (h : Bel a b) : ∀ g o, g < a.heap.size → b.cell? ⟨g, o, none⟩ = a.cell? ⟨g, o, none⟩ := fun _ _ hg => h.cell hg
theorem Bel.frule {a b : World} (h : Bel a b) : ∀ g o, g < a.heap.size → b.frozen? ⟨g, o, none⟩ = a.frozen? ⟨g, o, none⟩ := fun g o hg => Below.frozen h (p := ⟨g, o, none⟩) hg
section
variable {P : Program} {w : World} {id : Nat} {Q : Exit → Act → World → Prop} {a : Act} {l : List Oper}
theorem wp_still_tail (n : Nat) (hm : P.follows .mixedOrders = true) (hB : Region.lexTailB .any l.toArray n = true)
    (h : wpStill P l.toArray w.drew (fun a' => wpList P l.toArray Q (l.drop n) a' w.drew) (l.take n) a) : (Code.region id l.toArray true).wp P Q a w :=
  wp_region_still_tail n hm hB h
theorem wp_still (hm : P.follows .mixedOrders = true) (hB : Region.lexB .any l.toArray = true)
    (h : wpStill P l.toArray w.drew (fun a' => Q .normal a' w.drew) l a) : (Code.region id l.toArray true).wp P Q a w :=
  wp_region_still hm hB (by simpa using h)
variable {ops : Array Oper} {Qs : Act → Prop} {o : Oper} {rest : List Oper}
theorem still_plain (hg : o.guard = none) (h : ∀ K : Act → Prop, (∀ a, wpStill P ops w Qs rest a → K a) → o.still P a w K) : wpStill P ops w Qs (o :: rest) a :=
  wpStill_step fun K hK => by simp only [Region.wanted, hg, if_true]; exact h K hK
theorem still_on {j : Nat} {b : Bool} (hg : o.guard = some (j, b)) (hy : yielded ops a.tmps j = some b) (h : ∀ K : Act → Prop, (∀ a, wpStill P ops w Qs rest a → K a) → o.still P a w K) : wpStill P ops w Qs (o :: rest) a :=
  wpStill_step fun K hK => by simp only [Region.wanted, hg, hy, beq_self_eq_true, if_true]; exact h K hK
theorem still_off {j : Nat} {b : Bool} (hg : o.guard = some (j, b)) (hy : yielded ops a.tmps j ≠ some b) (h : wpStill P ops w Qs rest (a.put o.dst undef)) : wpStill P ops w Qs (o :: rest) a :=
  wpStill_step fun K hK => by
    have : (yielded ops a.tmps j == some b) = false := by simpa using hy
    simp only [Region.wanted, hg, this, Bool.false_eq_true, if_false]; exact hK _ h
end
end Sk
