/- The examples of the chapter hold. -/
import Derived.Test.YtpgbfoeejiamjaaGreatDoorK13
import Derived.Test.YtpgbfoeejiamjaaGreatDoorK14
import Derived.Test.YtpgbfoeejiamjaaGreatDoorProg
set_option linter.all false
set_option linter.unusedVariables false
set_option linter.unusedSimpArgs false
set_option linter.unusedSectionVars false
namespace Sk
open Go Go.RowKit Go.Proofs
section
variable {W w : World} {L : List Asn}
set_option maxRecDepth 100000 in
set_option maxHeartbeats 1000000 in
theorem equalC {v1 v2 : Value} {xs ys : List UInt8} (h1 : RdW w 1 v1 xs.length (xs.map byteV)) (h2 : RdW w 1 v2 ys.length (ys.map byteV)) :
    Calls Tryz.prog 16 #[v1, v2] w fun e w' => e = .returned (.bool (decide (xs = ys))) ∧ w = w' := by
  have c1 := h1.conv Tryz.underlying24 Tryz.underlying5 Tryz.underlying9
  have c2 := h2.conv Tryz.underlying24 Tryz.underlying5 Tryz.underlying9
  obtain ⟨A1, k1, rfl, _⟩ := h1.form
  obtain ⟨A2, k2, rfl, _⟩ := h2.form
  go_enter Tryz.func16, Tryz.ntmps16
  go_wp2
  go_ret
  refine ⟨ret_bool ?_, rfl⟩
  by_cases h : xs = ys <;> simp [h]
theorem d0_whole : Dsk.whole ⟨[], 0, [], false⟩ [] := ⟨rfl, by simp⟩
/-- What stands at the end of the examples. -/
def WkS (W : World) (L : List Asn) (d pa pl gb ge ga : Nat) (A1 A2 A3 As : Option Addr) (k1 k2 k3 ks : Nat) (w : World) : Prop :=
  Own W w (blk gb (.cells #[ei 5, ei 2] 23) :: blk ge (.cells #[ei 300, ei 5, ei 2, .string ⟨#[97, 98]⟩] 92) ::
    slA 1 (.slice A1 3 k1) [(1 : UInt8), 5, 2].length ([(1 : UInt8), 5, 2].map byteV) :: slA 1 (.slice A2 8 k2) [(2 : UInt8), 5, 2, 172, 2, 2, 97, 98].length ([(2 : UInt8), 5, 2, 172, 2, 2, 97, 98].map byteV) ::
    slA 1 (.slice A3 3 k3) [(3 : UInt8), 0, 0].length ([(3 : UInt8), 0, 0].map byteV) :: slA 1 (.slice As 15 ks) [(5 : UInt8), 2, 0, 1, 172, 2, 5, 2, 2, 97, 98, 0, 1, 0, 0].length ([(5 : UInt8), 2, 0, 1, 172, 2, 5, 2, 2, 97, 98, 0, 1, 0, 0].map byteV) ::
    dskA d ⟨[], 0, [5, 2, 0, 1, 172, 2, 5, 2, 2, 97, 98, 0, 1, 0, 0], true⟩ :: accA pa wA :: logA pl wL :: blk ga (.cells #[.slice A1 3 k1, .slice A2 8 k2, .slice A3 3 k3] 24) :: L)
section
variable {d pa pl gb ge ga : Nat} {A1 A2 A3 As : Option Addr} {k1 k2 k3 ks : Nat}
theorem WkS.all (h : WkS W L d pa pl gb ge ga A1 A2 A3 As k1 k2 k3 ks w) : WkS W L d pa pl gb ge ga A1 A2 A3 As k1 k2 k3 ks w ∧ (∀ i, w.cell? ⟨gb, i, none⟩ = #[ei 5, ei 2][i]?) ∧ (∀ i, w.cell? ⟨ge, i, none⟩ = #[ei 300, ei 5, ei 2, .string ⟨#[97, 98]⟩][i]?) := ⟨h, Own.cell h, (Own.front2 h).cell⟩
theorem WkS.rest (h : WkS W L d pa pl gb ge ga A1 A2 A3 As k1 k2 k3 ks w) : Own W w L := Own.drop (Own.drop (Own.drop (Own.drop (Own.drop (Own.drop (Own.drop (Own.drop (Own.drop (Own.drop h)))))))))
theorem WkS.alloc (h : WkS W L d pa pl gb ge ga A1 A2 A3 As k1 k2 k3 ks w) (o : Obj) : WkS W L d pa pl gb ge ga A1 A2 A3 As k1 k2 k3 ks (w.alloc o) := Own.skip h o
theorem WkS.drew (h : WkS W L d pa pl gb ge ga A1 A2 A3 As k1 k2 k3 ks w) : WkS W L d pa pl gb ge ga A1 A2 A3 As k1 k2 k3 ks w.drew := Own.drew h
theorem rd_cells {g n : Nat} {xs : List UInt8} (h : ∀ i, w.cell? ⟨g, i, none⟩ = (xs.map byteV).toArray[i]?) (hn : xs.length = n) (hm : n ≤ 1000) : RdW w 1 (.slice (some ⟨g, 0, none⟩) n n) xs.length (xs.map byteV) := by
  subst hn
  exact ⟨by simp, _, _, rfl, Nat.le_refl _, by unfold maxLen; omega, fun _ => ⟨_, rfl, fun j u hu => by rw [add_zero_block, h]; simpa using hu⟩⟩
theorem WkS.eq1 {g : Nat} (h : WkS W L d pa pl gb ge ga A1 A2 A3 As k1 k2 k3 ks w) (hc : ∀ i, w.cell? ⟨g, i, none⟩ = #[Value.int .u8 1, .int .u8 5, .int .u8 2][i]?) : Calls Tryz.prog 16 #[.slice A1 3 k1, .slice (some ⟨g, 0, none⟩) 3 3] w fun e w' => e = .returned (.bool true) ∧ w = w' :=
  equalC (xs := [1, 5, 2]) (ys := [1, 5, 2]) (Own.sel h [2]).sl_rd (rd_cells hc rfl (by decide))
theorem WkS.eq2 {g : Nat} (h : WkS W L d pa pl gb ge ga A1 A2 A3 As k1 k2 k3 ks w) (hc : ∀ i, w.cell? ⟨g, i, none⟩ = #[Value.int .u8 2, .int .u8 5, .int .u8 2, .int .u8 172, .int .u8 2, .int .u8 2, .int .u8 97, .int .u8 98][i]?) : Calls Tryz.prog 16 #[.slice A2 8 k2, .slice (some ⟨g, 0, none⟩) 8 8] w fun e w' => e = .returned (.bool true) ∧ w = w' :=
  equalC (xs := [2, 5, 2, 172, 2, 2, 97, 98]) (ys := [2, 5, 2, 172, 2, 2, 97, 98]) (Own.sel h [3]).sl_rd (rd_cells hc rfl (by decide))
theorem WkS.eq3 {g : Nat} (h : WkS W L d pa pl gb ge ga A1 A2 A3 As k1 k2 k3 ks w) (hc : ∀ i, w.cell? ⟨g, i, none⟩ = #[Value.int .u8 3, .int .u8 0, .int .u8 0][i]?) : Calls Tryz.prog 16 #[.slice A3 3 k3, .slice (some ⟨g, 0, none⟩) 3 3] w fun e w' => e = .returned (.bool true) ∧ w = w' :=
  equalC (xs := [3, 0, 0]) (ys := [3, 0, 0]) (Own.sel h [4]).sl_rd (rd_cells hc rfl (by decide))
theorem WkS.eq4 {g : Nat} (h : WkS W L d pa pl gb ge ga A1 A2 A3 As k1 k2 k3 ks w) (hc : ∀ i, w.cell? ⟨g, i, none⟩ = #[Value.int .u8 5, .int .u8 2, .int .u8 0, .int .u8 1, .int .u8 172, .int .u8 2, .int .u8 5, .int .u8 2, .int .u8 2, .int .u8 97, .int .u8 98, .int .u8 0, .int .u8 1, .int .u8 0, .int .u8 0][i]?) : Calls Tryz.prog 16 #[.slice As 15 ks, .slice (some ⟨g, 0, none⟩) 15 15] w fun e w' => e = .returned (.bool true) ∧ w = w' :=
  equalC (xs := [5, 2, 0, 1, 172, 2, 5, 2, 2, 97, 98, 0, 1, 0, 0]) (ys := [5, 2, 0, 1, 172, 2, 5, 2, 2, 97, 98, 0, 1, 0, 0]) (Own.sel h [5]).sl_rd (rd_cells hc rfl (by decide))
theorem WkS.pr (h : WkS W L d pa pl gb ge ga A1 A2 A3 As k1 k2 k3 ks w) : Calls Tryz.prog 64 #[ptr pa] w fun e w' => e = .returned (.agg #[ei 5, ei 2]) ∧ WkS W L d pa pl gb ge ga A1 A2 A3 As k1 k2 k3 ks w' :=
  (accPromised (Own.sel h [7]) (by decide)).mono fun _ _ ⟨he, hw⟩ => ⟨he, Own.sel hw [1, 2, 3, 4, 5, 6, 7, 0]⟩
end
theorem w_w1 : ∃ D1, Dsk.write ⟨[], 0, [], false⟩ [1, 5, 2] = (0, D1) ∧ D1.b.length ≤ 16777216 ∧ ∃ D2, D1.write [2, 5, 2, 172, 2, 2, 97, 98] = (0, D2) ∧ D2.b.length ≤ 16777216 ∧ ∃ D3, D2.write [3, 0, 0] = (0, D3) ∧
    D3.b.length ≤ 16777216 ∧ D3.st = [] ∧ D3.has = false ∧ D3.recs = [[1, 5, 2], [2, 5, 2, 172, 2, 2, 97, 98], [3, 0, 0]] := by
  obtain ⟨a1, a2⟩ := whole_write d0_whole (s := [1, 5, 2]) (by decide) (by decide)
  have l1 := frm_len [1, 5, 2]
  obtain ⟨b1, b2⟩ := whole_write a2 (s := [2, 5, 2, 172, 2, 2, 97, 98]) (by decide) (by simp only [List.length_append, List.length_cons, List.length_nil] at l1 ⊢; omega)
  have l2 := frm_len [2, 5, 2, 172, 2, 2, 97, 98]
  obtain ⟨c1, c2⟩ := whole_write b2 (s := [3, 0, 0]) (by decide) (by simp only [List.length_append, List.length_cons, List.length_nil] at l1 l2 ⊢; omega)
  have l3 := frm_len [3, 0, 0]
  refine ⟨_, a1, ?_, _, b1, ?_, _, c1, ?_, rfl, rfl, c2.recs⟩
  · simp only [List.length_append, List.length_cons, List.length_nil] at l1 ⊢; omega
  · simp only [List.length_append, List.length_cons, List.length_nil] at l1 l2 ⊢; omega
  · simp only [List.length_append, List.length_cons, List.length_nil] at l1 l2 l3 ⊢; omega
set_option maxRecDepth 100000 in
set_option maxHeartbeats 8000000 in
theorem worksC (hF : Fours W) (H : Own W w L) : Calls Tryz.prog 9 #[] w fun e w' => e = .returned (.bool true) ∧ Own W w' L := by
  have H0 := H.alloc (.cells #[ei 5, ei 2] 23)
  have h1 := promiseC H0 wB
  rw [w_prom] at h1
  have h1' := Lib.hid h1
  clear h1
  go_enter Tryz.func9, Tryz.ntmps9
  go_wp2_with fail
  refine h1'.out.mono ?_
  rintro e w1 ⟨v1, rfl, H1⟩
  simp only at H1
  have hc1 := H1.front2.cell
  have h2 := acceptC H1 wB 300 wAb (by decide)
  rw [w_acc] at h2
  have h2' := Lib.hid h2
  clear h2
  go_wp2_with fail
  refine h2'.out.mono ?_
  rintro e w2 ⟨v2, rfl, H2⟩
  simp only at H2
  have h3 := chooseC H2 0 wE (by decide)
  rw [w_cho] at h3
  have h3' := Lib.hid h3
  clear h3
  go_wp2_with fail
  refine h3'.out.mono ?_
  rintro e w3 ⟨v3, rfl, H3⟩
  simp only at H3
  go_wp2_with fail
  refine (diskNew H3).mono ?_
  rintro e w4 ⟨d, rfl, H4⟩
  have H5 : Own W w4 (dskA d ⟨[], 0, [], false⟩ :: slA 1 v1 [(1 : UInt8), 5, 2].length ([(1 : UInt8), 5, 2].map byteV) :: slA 1 v2 [(2 : UInt8), 5, 2, 172, 2, 2, 97, 98].length ([(2 : UInt8), 5, 2, 172, 2, 2, 97, 98].map byteV) :: slA 1 v3 [(3 : UInt8), 0, 0].length ([(3 : UInt8), 0, 0].map byteV) :: blk w.heap.size (.cells #[ei 5, ei 2] 23) :: L) := by
    have a1 := (H4.sel [1]).row_freeze
    have a2 := (Own.sel a1 [2]).row_freeze
    have a3 := (Own.sel a2 [3]).row_freeze
    exact Own.sel a3 [3, 0, 1, 2]
  obtain ⟨A1, k1, hv1, _⟩ := (H5.sel [1]).sl_rd.form
  obtain ⟨A2, k2, hv2, _⟩ := (H5.sel [2]).sl_rd.form
  obtain ⟨A3, k3, hv3, _⟩ := (H5.sel [3]).sl_rd.form
  obtain ⟨D1, hD1, hs1⟩ := w_w1
  obtain ⟨D2, hD2, hs2⟩ := hs1.2
  obtain ⟨D3, hD3, hs3⟩ := hs2.2
  have HS3 := Lib.hid hs3
  have hl1 := hs1.1
  have hl2 := hs2.1
  clear h1' h2' h3' hs1 hs2 hs3
  subst hv1; subst hv2; subst hv3
  have H6 := H5.alloc (.cells #[.slice A1 [(1 : UInt8), 5, 2].length k1, .slice A2 [(2 : UInt8), 5, 2, 172, 2, 2, 97, 98].length k2, .slice A3 [(3 : UInt8), 0, 0].length k3] 24)
  simp only [List.length_cons, List.length_nil, Nat.zero_add, Nat.reduceAdd] at H6 ⊢
  go_wp2_with fail
  have hc6 := H6.cell
  refine wp_loop_rounds 4 ?_
  rw [rounds_succ]
  go_wp2_with fail
  have hw1 := writeC hF (H6.sel [1, 2]) (by decide)
  rw [hD1] at hw1
  have hw1' := Lib.hid hw1
  clear hw1
  refine hw1'.out.mono ?_
  rintro e w5 ⟨rfl, H7⟩
  simp only at H7
  have hc7 := H7.front3.cell
  go_wp2_with fail
  rw [rounds_succ]
  go_wp2_with fail
  have hw2 := writeC hF (H7.sel [0, 3]) hl1
  rw [hD2] at hw2
  have hw2' := Lib.hid hw2
  clear hw2
  refine hw2'.out.mono ?_
  rintro e w6 ⟨rfl, H8⟩
  simp only at H8
  have hc8 := (H8.sel [3]).cell
  go_wp2_with fail
  rw [rounds_succ]
  go_wp2_with fail
  have hw3 := writeC hF (H8.sel [0, 4]) hl2
  rw [hD3] at hw3
  have hw3' := Lib.hid hw3
  clear hw3
  refine hw3'.out.mono ?_
  rintro e w7 ⟨rfl, H9⟩
  simp only at H9
  have hc9 := (H9.sel [4]).cell
  go_wp2_with fail
  rw [rounds_succ]
  go_wp2_with fail
  have hl3 := HS3.out.1
  have hst3 := HS3.out.2.1
  have hh3 := HS3.out.2.2.1
  have hrc := recover0 hF H9 hh3 hl3 (by rw [hst3]; simp) 3 (by decide) (by decide)
  rw [HS3.out.2.2.2, w_recs] at hrc
  have hrc' := Lib.hid hrc
  clear hrc
  refine hrc'.out.mono ?_
  rintro e w8 ⟨pa, pl, rfl, ha, hl, H10⟩
  have HA := Lib.hid ha
  have HL := Lib.hid hl
  have hc10 := (H10.sel [7]).cell
  clear ha hl hst3 hh3
  go_wp2_with fail
  have hac := accAccepted H10 (by decide) 300 (goodInt_of (by decide) (by decide))
  rw [acpV_some (show wA.ent 300 = some (wB, wAb) from rfl)] at hac
  have hac' := Lib.hid hac
  clear hac
  refine hac'.out.mono ?_
  rintro e w9 ⟨rfl, H11⟩
  go_wp2_with fail
  have H12 := H11.alloc (.cells #[ei 300, ei wB.r, ei wB.n, .string wAb] 92)
  have hgt := logGet (H12.sel [2]) 0 (goodInt_of (by decide) (by decide))
  rw [show getV wL 0 = .tuple #[.string wE, .bool true] from rfl] at hgt
  have hgt' := Lib.hid hgt
  clear hgt
  refine hgt'.out.mono ?_
  rintro e w10 ⟨rfl, rfl⟩
  go_wp2_with fail
  refine (compactC (H12.sel [3, 1, 2]) HA.out HL.out hl3 (by rw [HS3.out.2.1]; simp)).mono ?_
  rintro e w11 ⟨es, vs, he1, he2, rfl, H13⟩
  have q1 := w_es he1
  have q2 := w_vs he2
  subst q1; subst q2
  clear he1 he2
  have hsv : D3.save (snapB wA wL [(300, wB, wAb)] [(0, wE)]) = (0, ⟨[], 0, [5, 2, 0, 1, 172, 2, 5, 2, 2, 97, 98, 0, 1, 0, 0], true⟩) := by rw [w_snap]; exact if_pos (by decide)
  rw [hsv] at H13 ⊢
  simp only at H13 ⊢
  clear hsv
  go_wp2_with fail
  refine (diskSnapshot H13 (by simp)).mono ?_
  rintro e w12 ⟨v, rfl, H14⟩
  simp only [if_true] at H14 ⊢
  obtain ⟨As, ks, hvs, _⟩ := H14.sl_rd.form
  subst hvs
  have hce := (H14.sel [4]).cell
  have hcb := (H14.sel [9]).cell
  go_wp2_with fail
  have HS : WkS W L d pa pl w.heap.size w9.heap.size w4.heap.size A1 A2 A3 As k1 k2 k3 ks w12 := H14.sel [9, 4, 7, 6, 5, 0, 1, 2, 3, 8]
  have hr5 : wB.r = 5 := rfl
  have hn2 : wB.n = 2 := rfl
  have hab : wAb = ⟨#[97, 98]⟩ := rfl
  have hem : wE = ⟨#[]⟩ := rfl
  have hbe : balEq 5 2 5 2 = true := by decide
  have hee : ∀ w, (binOp .eql 92 (.agg #[.int .i64 300, .int .i64 5, .int .i64 2, .string ⟨#[97, 98]⟩]) (.agg #[.int .i64 300, .int .i64 5, .int .i64 2, .string ⟨#[97, 98]⟩])).run Tryz.prog w = .ok (.bool true) w := fun _ => by kernel_rfl
  clear hc1 hc6 hc7 hc8 hc9 hc10 hce hcb
  go_region_held3 (fun w' => WkS W L d pa pl w.heap.size w9.heap.size w4.heap.size A1 A2 A3 As k1 k2 k3 ks w' ∧ (∀ i, w'.cell? ⟨w.heap.size, i, none⟩ = #[ei 5, ei 2][i]?) ∧ (∀ i, w'.cell? ⟨w9.heap.size, i, none⟩ = #[ei 300, ei 5, ei 2, .string ⟨#[97, 98]⟩][i]?)) (first | with_reducible exact WkS.all (WkS.drew HS) | with_reducible exact WkS.all (by assumption) | with_reducible exact WkS.all (WkS.drew (WkS.alloc HS _)) | with_reducible exact WkS.all (WkS.drew (WkS.alloc (WkS.alloc HS _) _)) | with_reducible exact WkS.all (WkS.drew (WkS.alloc (WkS.alloc (WkS.alloc HS _) _) _)) | with_reducible exact WkS.all (WkS.alloc hS2 _)) (first | (go_at_call 16; (first | ((with_reducible refine (WkS.eq1 (by first | with_reducible exact (WkS.drew HS) | with_reducible exact (WkS.drew (WkS.alloc HS _)) | with_reducible exact (WkS.drew (WkS.alloc (WkS.alloc HS _) _)) | with_reducible exact (WkS.drew (WkS.alloc (WkS.alloc (WkS.alloc HS _) _) _)) | with_reducible exact hS2 | with_reducible exact (WkS.alloc hS2 _)) ?_).mono ?_); exact (by intro i; first | (simp; done) | (go_simp; done))) | ((with_reducible refine (WkS.eq2 (by first | with_reducible exact (WkS.drew HS) | with_reducible exact (WkS.drew (WkS.alloc HS _)) | with_reducible exact (WkS.drew (WkS.alloc (WkS.alloc HS _) _)) | with_reducible exact (WkS.drew (WkS.alloc (WkS.alloc (WkS.alloc HS _) _) _)) | with_reducible exact hS2 | with_reducible exact (WkS.alloc hS2 _)) ?_).mono ?_); exact (by intro i; first | (simp; done) | (go_simp; done))) | ((with_reducible refine (WkS.eq3 (by first | with_reducible exact (WkS.drew HS) | with_reducible exact (WkS.drew (WkS.alloc HS _)) | with_reducible exact (WkS.drew (WkS.alloc (WkS.alloc HS _) _)) | with_reducible exact (WkS.drew (WkS.alloc (WkS.alloc (WkS.alloc HS _) _) _)) | with_reducible exact hS2 | with_reducible exact (WkS.alloc hS2 _)) ?_).mono ?_); exact (by intro i; first | (simp; done) | (go_simp; done))) | ((with_reducible refine (WkS.eq4 (by first | with_reducible exact (WkS.drew HS) | with_reducible exact (WkS.drew (WkS.alloc HS _)) | with_reducible exact (WkS.drew (WkS.alloc (WkS.alloc HS _) _)) | with_reducible exact (WkS.drew (WkS.alloc (WkS.alloc (WkS.alloc HS _) _) _)) | with_reducible exact hS2 | with_reducible exact (WkS.alloc hS2 _)) ?_).mono ?_); exact (by intro i; first | (simp; done) | (go_simp; done)))); rintro e w' ⟨rfl, rfl⟩) | (go_at_call 64; refine (WkS.pr (by first | with_reducible exact (WkS.drew HS) | with_reducible exact (WkS.drew (WkS.alloc HS _)) | with_reducible exact (WkS.drew (WkS.alloc (WkS.alloc HS _) _)) | with_reducible exact (WkS.drew (WkS.alloc (WkS.alloc (WkS.alloc HS _) _) _)) | with_reducible exact hS2 | with_reducible exact (WkS.alloc hS2 _))).mono ?_; rintro e wP ⟨rfl, hS2⟩))
  go_wp2_with fail
  go_ret
  exact ⟨rfl, (WkS.alloc hS2 _).rest⟩
end
end Sk
/- StableRecords: the walk. -/
namespace Sk
open Go Go.RowKit Go.Proofs
attribute [local go_sem ↓] run_eql_bal run_neq_bal strEq_hide
theorem Own.one {W w : World} {L : List Asn} {A : Asn} (H : Own W w (A :: L)) : Own W w [A] := H.imp fun _ _ _ ⟨h1, h2, a, b, d, hA, _⟩ => ⟨h1, h2, a, b, d, hA, trivial⟩
theorem strEq_self (a : ByteArray) : strEq a a = true := by rw [strEq_iff]; simp
set_option maxRecDepth 100000 in
set_option maxHeartbeats 8000000 in
theorem lawRecords {W : World} (hF : Fours W) (b : Bal) (slot : Int) (t : ByteArray) {A : Option Addr} {n c : Nat} {s : List UInt8} (hn : n = s.length) (hr : RdW W 1 (.slice A n c) s.length (s.map byteV)) :
    Calls Tryz.prog 3 #[b.v, ei slot, .string t, .slice A n c] W fun e w' => e = .returned (.bool true) ∧ Bel W w' := by
  have H1 := (Own.start W).alloc (.cells #[ei b.r, ei b.n] 23)
  subst hn
  by_cases ht : 70000 < t.size
  · have ht' : 70000 < (t.size : Int) := by omega
    have hw := Lib.hid (worksC hF H1)
    go_enter Tryz.func3, Tryz.ntmps3
    go_wp2_with (go_at_call 9; refine hw.out.mono ?_; rintro e w1 ⟨rfl, H2⟩)
    go_ret
    exact ⟨rfl, H2.below⟩
  · have ht' : (t.size : Int) ≤ 70000 := by omega
    by_cases hs : 70000 < s.length
    · have hs' : 70000 < (s.length : Int) := by omega
      have hw := Lib.hid (worksC hF H1)
      go_enter Tryz.func3, Tryz.ntmps3
      go_wp2_with (go_at_call 9; refine hw.out.mono ?_; rintro e w1 ⟨rfl, H2⟩)
      go_ret
      exact ⟨rfl, H2.below⟩
    · have hs' : (s.length : Int) ≤ 70000 := by omega
      have hc1 := H1.cell
      have hp1 := Lib.hid (promiseC H1 b)
      have HR0 := Lib.hid hr
      clear hr
      go_enter Tryz.func3, Tryz.ntmps3
      go_wp2_with fail
      refine hp1.out.mono ?_
      rintro e w1 ⟨v1, rfl, H2⟩
      have hc2 := H2.front2.cell
      go_wp2_with fail
      refine (rPromise H2 b).mono ?_
      rintro e w2 ⟨v2, rfl, H3⟩
      have hc3 := H3.front3.cell
      go_wp2_with fail
      refine (acceptC H3 b slot t (by omega)).mono ?_
      rintro e w3 ⟨v3, rfl, H4⟩
      have hc4 := (H4.sel [3]).cell
      go_wp2_with fail
      refine (rAccept H4 b slot t (by omega)).mono ?_
      rintro e w4 ⟨v4, rfl, H5⟩
      go_wp2_with fail
      refine (chooseC H5 slot t (by omega)).mono ?_
      rintro e w5 ⟨v5, rfl, H6⟩
      go_wp2_with fail
      refine (rChoose H6 slot t (by omega)).mono ?_
      rintro e w6 ⟨v6, rfl, H7⟩
      generalize promP b = x1 at *
      generalize accP b slot t = x2 at *
      generalize chooseP slot t = x3 at *
      obtain ⟨A1, k1, hv1, _⟩ := (H7.sel [5]).row_rd.form
      obtain ⟨A2, k2, hv2, _⟩ := (H7.sel [4]).row_rd.form
      obtain ⟨A3, k3, hv3, _⟩ := (H7.sel [3]).row_rd.form
      obtain ⟨A4, k4, hv4, _⟩ := (H7.sel [2]).row_rd.form
      obtain ⟨A5, k5, hv5, _⟩ := (H7.sel [1]).row_rd.form
      obtain ⟨A6, k6, hv6, _⟩ := H7.row_rd.form
      subst hv1; subst hv2; subst hv3; subst hv4; subst hv5; subst hv6
      clear hc1 hc2 hc3 hc4
      go_wp2_with fail
      refine (equalC (H7.sel [5]).row_rd (H7.sel [4]).row_rd).mono ?_
      rintro e w' ⟨rfl, rfl⟩
      rw [decide_eq_true rfl]
      go_wp2_with fail
      refine (equalC (H7.sel [3]).row_rd (H7.sel [2]).row_rd).mono ?_
      rintro e w' ⟨rfl, rfl⟩
      rw [decide_eq_true rfl]
      go_wp2_with fail
      refine (equalC (H7.sel [1]).row_rd H7.row_rd).mono ?_
      rintro e w' ⟨rfl, rfl⟩
      rw [decide_eq_true rfl]
      go_wp2_with fail
      have hr7 := Lib.hid (HR0.out.bel H7.below)
      refine (cloneB H7 hr7.out (by omega)).mono ?_
      rintro e w7 ⟨A7, k7, rfl, H8⟩
      have H8' : Own W w7 [rowA 5 1 (.slice A7 s.length k7) s.length (s.map byteV)] := Own.one H8
      have hr8 := Lib.hid (HR0.out.bel H8'.below)
      go_wp2_with fail
      refine (parseRecC H8' hr8.out (by omega)).mono ?_
      rintro e w8 ⟨rfl, H9⟩
      have hpr := Lib.hid (fun (w' : World) (L : List Asn) (h : Own W w' L) (hh : RdW w' 1 (.slice A7 s.length k7) s.length (s.map byteV)) => rParse h hh (by omega))
      rcases hps : parseP s with _ | r
      · have HPS := Lib.hid hps
        simp only [parseR]
        have H10 := H9.alloc (.cells #[ei 0, ei 0] 23)
        have hbe : balEq 0 0 0 0 = true := by decide
        have hst := strEq_self ⟨#[]⟩
        clear hps
        go_wp2_with fail
        refine (hpr.out _ _ H10 (H10.sel [1]).row_rd).mono ?_
        rintro e w9 ⟨rfl, H11⟩
        rw [HPS.out]
        simp only [parseR]
        have hcA := H11.cell
        have hltA := H11.lt
        go_wp2_with fail
        refine (equalC (by exact HR0.out.bel (Own.skip H11 _).below) (by exact ((Own.skip H11 _).sel [1]).row_rd)).mono ?_
        rintro e w' ⟨rfl, rfl⟩
        rw [decide_eq_true rfl]
        go_wp2_with fail
        refine (worksC hF (by exact Own.skip H11 _)).mono ?_
        rintro e w10 ⟨rfl, H13⟩
        go_wp2_with fail
        go_ret
        exact ⟨rfl, H13.below⟩
      · have HPS := Lib.hid hps
        simp only [parseR]
        have H10 := H9.alloc (.cells #[ei r.b.r, ei r.b.n] 23)
        have hbe : balEq r.b.r r.b.n r.b.r r.b.n = true := balEq_yes (x := r.b) (y := r.b) rfl
        have hst := strEq_self ⟨r.value.toArray⟩
        clear hps
        go_wp2_with fail
        refine (hpr.out _ _ H10 (H10.sel [1]).row_rd).mono ?_
        rintro e w9 ⟨rfl, H11⟩
        rw [HPS.out]
        simp only [parseR]
        have hcA := H11.cell
        have hltA := H11.lt
        go_wp2_with fail
        refine (equalC (by exact HR0.out.bel (Own.skip H11 _).below) (by exact ((Own.skip H11 _).sel [1]).row_rd)).mono ?_
        rintro e w' ⟨rfl, rfl⟩
        rw [decide_eq_true rfl]
        go_wp2_with fail
        refine (worksC hF (by exact Own.skip H11 _)).mono ?_
        rintro e w10 ⟨rfl, H13⟩
        go_wp2_with fail
        go_ret
        exact ⟨rfl, H13.below⟩
end Sk
