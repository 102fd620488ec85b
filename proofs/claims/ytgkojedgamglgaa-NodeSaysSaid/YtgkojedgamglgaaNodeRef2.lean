/- The walk of the reference's GoodNode. Condition: the runs can be read. -/
import Derived.Test.YtgkojedgamglgaaNodePlain5
import Derived.BigGuard
namespace Go.Proofs.Ytgkojedgamglgaa
open Go.RowKit
set_option linter.unusedVariables false
set_option linter.unusedSimpArgs false
theorem cn1 {g : Geo} {l s : Int} {rs : List Rn} : CN g ⟨1, l, s⟩ rs ↔ (1 ≤ l ∧ l ≤ 200) ∧ 0 ≤ s ∧ s ≤ 4096 ∧ rs.length ≤ 4 := by
  unfold CN
  simp only
  constructor
  · rintro ⟨a, b, c, d, e, f, i⟩
    have := d (by decide)
    omega
  · intro h
    exact ⟨by omega, by omega, by omega, fun _ => by omega, fun h => absurd h (by decide), fun h => absurd h (by decide), by omega⟩
theorem cn2 {g : Geo} {l s : Int} {rs : List Rn} : CN g ⟨2, l, s⟩ rs ↔ (1 ≤ l ∧ l ≤ 200) ∧ 0 ≤ s ∧ s ≤ g.b ∧ rs.length ≤ 4 := by
  unfold CN
  simp only
  constructor
  · rintro ⟨a, b, c, d, e, f, i⟩
    have := e trivial
    omega
  · intro h
    exact ⟨by omega, by omega, by omega, by intro h; first | exact absurd trivial h | exact absurd rfl h, fun _ => by omega, fun h => absurd h (by decide), by omega⟩
theorem cn3 {g : Geo} {l s : Int} {rs : List Rn} : CN g ⟨3, l, s⟩ rs ↔ (1 ≤ l ∧ l ≤ 200) ∧ 0 ≤ s ∧ s ≤ 4096 ∧ 1 ≤ s ∧ s ≤ 400 ∧ rs.length ≤ 4 := by
  unfold CN
  simp only
  constructor
  · rintro ⟨a, b, c, d, e, f, i⟩
    have := d (by decide)
    have := f trivial
    omega
  · intro h
    exact ⟨by omega, by omega, by omega, fun _ => by omega, fun h => absurd h (by decide), fun _ => by omega, by omega⟩
set_option maxRecDepth 100000 in
set_option maxHeartbeats 8000000 in
theorem rnGood_any (g : Geo) (n : NodeN) (A : Option Addr) (rs : List Rn) (c : Nat) (w : World) (hl : RdR w A rs) (hf : n.Fit) (hn : rs.length ≤ 1000) :
    Calls Try.prog 57 #[g.v, nodeV n A rs c] w fun e w' => e = .returned (.bool (goodN g n rs)) ∧ Below w.heap.size w w' := by
  have KG := Lib.hid (fun W => refGood_any g W)
  have KZ := Lib.hid (fun W => rnZero_any n A rs c W)
  have HL := Lib.hid hl
  clear hl
  obtain ⟨t, l, s⟩ := n
  by_cases hg : g.good = true
  rotate_left
  · have HR := Lib.hid (show false = goodN g ⟨t, l, s⟩ rs by unfold goodN; rw [Bool.eq_false_iff.2 hg]; rfl)
    rw [Bool.eq_false_iff.2 hg] at KG
    clear hg KZ
    generalize goodN g ⟨t, l, s⟩ rs = pb at *
    obtain ⟨gb, gn, gc, gk⟩ := g
    unfold nodeV
    simp only [Geo.v] at *
    have HGX := Lib.hid (heap_below (heap_alloc_new w (.cells #[.int .i64 gb, .int .i64 gn, .int .i64 gc, .int .i64 gk] 44)) ((Below.refl _ _).alloc (Nat.le_refl _) (.cells #[.int .i64 t, .int .i64 l, .int .i64 s, .slice A rs.length c] 93)))
    have HW := Lib.hid (((Below.refl w.heap.size w).alloc (Nat.le_refl _) (.cells #[.int .i64 gb, .int .i64 gn, .int .i64 gc, .int .i64 gk] 44)).alloc (by simp) (.cells #[.int .i64 t, .int .i64 l, .int .i64 s, .slice A rs.length c] 93))
    obtain ⟨i0, i1, i2, i3⟩ := cells4 HGX.out
    go_enter Try.func57, Try.ntmps57
    simp only [List.append_eq, List.nil_append, List.cons_append]
    go_wp2_with fail
    refine (KG.out _).mono ?_
    rintro e w1 ⟨rfl, hb⟩
    have HW := Lib.hid (HW.out.trans (hb.mono HW.out.size))
    clear hb i0 i1 i2 i3
    go_wp2
    go_ret
    exact ⟨ret_bool HR.out, HW.out⟩
  have HNC := Lib.hid (fun (ht : t ≠ 0) (h : ¬ CN g ⟨t, l, s⟩ rs) => show false = goodN g ⟨t, l, s⟩ rs from (Bool.eq_false_iff.2 (fun e => h (good_cn hg ht e))).symm)
  rw [hg] at KG
  by_cases ht : t = 0
  · have HR := Lib.hid (show nfreeB ⟨t, l, s⟩ rs = goodN g ⟨t, l, s⟩ rs by unfold goodN; rw [hg, if_pos ht]; rfl)
    subst ht
    clear HNC hg
    generalize goodN g ⟨0, l, s⟩ rs = pb at *
    generalize nfreeB ⟨0, l, s⟩ rs = fr at *
    obtain ⟨gb, gn, gc, gk⟩ := g
    unfold nodeV at *
    simp only [Geo.v] at *
    have HGX := Lib.hid (heap_below (heap_alloc_new w (.cells #[.int .i64 gb, .int .i64 gn, .int .i64 gc, .int .i64 gk] 44)) ((Below.refl _ _).alloc (Nat.le_refl _) (.cells #[.int .i64 0, .int .i64 l, .int .i64 s, .slice A rs.length c] 93)))
    have HBX := Lib.hid (show ((w.alloc (.cells #[.int .i64 gb, .int .i64 gn, .int .i64 gc, .int .i64 gk] 44)).alloc (.cells #[.int .i64 0, .int .i64 l, .int .i64 s, .slice A rs.length c] 93)).heap[w.heap.size + 1]? = some (.cells #[.int .i64 0, .int .i64 l, .int .i64 s, .slice A rs.length c] 93 (0, 0)) by have h := heap_alloc_new (w.alloc (.cells #[.int .i64 gb, .int .i64 gn, .int .i64 gc, .int .i64 gk] 44)) (.cells #[.int .i64 0, .int .i64 l, .int .i64 s, .slice A rs.length c] 93); simpa using h)
    have HW := Lib.hid (((Below.refl w.heap.size w).alloc (Nat.le_refl _) (.cells #[.int .i64 gb, .int .i64 gn, .int .i64 gc, .int .i64 gk] 44)).alloc (by simp) (.cells #[.int .i64 0, .int .i64 l, .int .i64 s, .slice A rs.length c] 93))
    obtain ⟨i0, i1, i2, i3⟩ := cells4 HGX.out
    obtain ⟨c0, c1, c2, c3⟩ := cells4 HBX.out
    go_enter Try.func57, Try.ntmps57
    simp only [List.append_eq, List.nil_append, List.cons_append]
    go_wp2_with fail
    refine (KG.out _).mono ?_
    rintro e w1 ⟨rfl, hb⟩
    have HW := Lib.hid (HW.out.trans (hb.mono HW.out.size))
    have HGX := Lib.hid (heap_below HGX.out hb)
    have HBX := Lib.hid (heap_below HBX.out hb)
    clear hb
    clear i0 i1 i2 i3 c0 c1 c2 c3
    obtain ⟨i0, i1, i2, i3⟩ := cells4 HGX.out
    obtain ⟨c0, c1, c2, c3⟩ := cells4 HBX.out
    go_wp2_with fail
    refine (KZ.out _).mono ?_
    rintro e w2 ⟨rfl, hb⟩
    have HW := Lib.hid (HW.out.trans (hb.mono HW.out.size))
    have HGX := Lib.hid (heap_below HGX.out hb)
    have HBX := Lib.hid (heap_below HBX.out hb)
    clear hb
    go_wp2
    go_ret
    exact ⟨ret_bool HR.out, HW.out⟩
  by_cases q1 : t < 0
  · have HR := Lib.hid (HNC.out ht (fun h => by have := h.1; simp only at this; omega))
    have k0 : (t == 0) = false := by rw [beq_eq_false_iff_ne]; exact ht
    clear HNC KZ hg ht
    generalize goodN g ⟨t, l, s⟩ rs = pb at *
    obtain ⟨gb, gn, gc, gk⟩ := g
    unfold nodeV at *
    simp only [Geo.v] at *
    have HGX := Lib.hid (heap_below (heap_alloc_new w (.cells #[.int .i64 gb, .int .i64 gn, .int .i64 gc, .int .i64 gk] 44)) ((Below.refl _ _).alloc (Nat.le_refl _) (.cells #[.int .i64 t, .int .i64 l, .int .i64 s, .slice A rs.length c] 93)))
    have HBX := Lib.hid (show ((w.alloc (.cells #[.int .i64 gb, .int .i64 gn, .int .i64 gc, .int .i64 gk] 44)).alloc (.cells #[.int .i64 t, .int .i64 l, .int .i64 s, .slice A rs.length c] 93)).heap[w.heap.size + 1]? = some (.cells #[.int .i64 t, .int .i64 l, .int .i64 s, .slice A rs.length c] 93 (0, 0)) by have h := heap_alloc_new (w.alloc (.cells #[.int .i64 gb, .int .i64 gn, .int .i64 gc, .int .i64 gk] 44)) (.cells #[.int .i64 t, .int .i64 l, .int .i64 s, .slice A rs.length c] 93); simpa using h)
    have HW := Lib.hid (((Below.refl w.heap.size w).alloc (Nat.le_refl _) (.cells #[.int .i64 gb, .int .i64 gn, .int .i64 gc, .int .i64 gk] 44)).alloc (by simp) (.cells #[.int .i64 t, .int .i64 l, .int .i64 s, .slice A rs.length c] 93))
    obtain ⟨i0, i1, i2, i3⟩ := cells4 HGX.out
    obtain ⟨c0, c1, c2, c3⟩ := cells4 HBX.out
    go_enter Try.func57, Try.ntmps57
    simp only [List.append_eq, List.nil_append, List.cons_append]
    go_wp2_with fail
    refine (KG.out _).mono ?_
    rintro e w1 ⟨rfl, hb⟩
    have HW := Lib.hid (HW.out.trans (hb.mono HW.out.size))
    have HGX := Lib.hid (heap_below HGX.out hb)
    have HBX := Lib.hid (heap_below HBX.out hb)
    clear hb
    clear i0 i1 i2 i3 c0 c1 c2 c3
    obtain ⟨i0, i1, i2, i3⟩ := cells4 HGX.out
    obtain ⟨c0, c1, c2, c3⟩ := cells4 HBX.out
    go_wp2
    go_ret
    exact ⟨ret_bool HR.out, HW.out⟩
  by_cases q2 : 3 < t
  · have HR := Lib.hid (HNC.out ht (fun h => by have := h.1; simp only at this; omega))
    have k0 : (t == 0) = false := by rw [beq_eq_false_iff_ne]; exact ht
    clear HNC KZ hg ht
    generalize goodN g ⟨t, l, s⟩ rs = pb at *
    obtain ⟨gb, gn, gc, gk⟩ := g
    unfold nodeV at *
    simp only [Geo.v] at *
    have HGX := Lib.hid (heap_below (heap_alloc_new w (.cells #[.int .i64 gb, .int .i64 gn, .int .i64 gc, .int .i64 gk] 44)) ((Below.refl _ _).alloc (Nat.le_refl _) (.cells #[.int .i64 t, .int .i64 l, .int .i64 s, .slice A rs.length c] 93)))
    have HBX := Lib.hid (show ((w.alloc (.cells #[.int .i64 gb, .int .i64 gn, .int .i64 gc, .int .i64 gk] 44)).alloc (.cells #[.int .i64 t, .int .i64 l, .int .i64 s, .slice A rs.length c] 93)).heap[w.heap.size + 1]? = some (.cells #[.int .i64 t, .int .i64 l, .int .i64 s, .slice A rs.length c] 93 (0, 0)) by have h := heap_alloc_new (w.alloc (.cells #[.int .i64 gb, .int .i64 gn, .int .i64 gc, .int .i64 gk] 44)) (.cells #[.int .i64 t, .int .i64 l, .int .i64 s, .slice A rs.length c] 93); simpa using h)
    have HW := Lib.hid (((Below.refl w.heap.size w).alloc (Nat.le_refl _) (.cells #[.int .i64 gb, .int .i64 gn, .int .i64 gc, .int .i64 gk] 44)).alloc (by simp) (.cells #[.int .i64 t, .int .i64 l, .int .i64 s, .slice A rs.length c] 93))
    obtain ⟨i0, i1, i2, i3⟩ := cells4 HGX.out
    obtain ⟨c0, c1, c2, c3⟩ := cells4 HBX.out
    go_enter Try.func57, Try.ntmps57
    simp only [List.append_eq, List.nil_append, List.cons_append]
    go_wp2_with fail
    refine (KG.out _).mono ?_
    rintro e w1 ⟨rfl, hb⟩
    have HW := Lib.hid (HW.out.trans (hb.mono HW.out.size))
    have HGX := Lib.hid (heap_below HGX.out hb)
    have HBX := Lib.hid (heap_below HBX.out hb)
    clear hb
    clear i0 i1 i2 i3 c0 c1 c2 c3
    obtain ⟨i0, i1, i2, i3⟩ := cells4 HGX.out
    obtain ⟨c0, c1, c2, c3⟩ := cells4 HBX.out
    go_wp2
    go_ret
    exact ⟨ret_bool HR.out, HW.out⟩
  have ht3 : t = 1 ∨ t = 2 ∨ t = 3 := by omega
  clear q1 q2 KZ
  have HFORM := Lib.hid (fun (h : CN g ⟨t, l, s⟩ rs) => good_form hg h)
  have HIFF := Lib.hid (fun r => okR_iff g (isLost g ⟨t, l, s⟩ rs) r)
  have HBAD := Lib.hid (fun k (hk : k < rs.length) h => ok_take_bad (g := g) (il := isLost g ⟨t, l, s⟩ rs) hk h)
  have HNX := Lib.hid (fun k (hk : k < rs.length) h0 h => ok_take_next (g := g) (il := isLost g ⟨t, l, s⟩ rs) hk h0 h)
  have HSM := Lib.hid (fun h => ok_small (g := g) (il := isLost g ⟨t, l, s⟩ rs) (rs := rs) h)
  have HIL := Lib.hid (show isLost g ⟨t, l, s⟩ rs = (decide (t = 2) && (rs == [(g.lf, g.n)])) from rfl)
  have KIL := Lib.hid (fun (W : World) (h : RdR W A rs) => rnLost_any g hg rs A c W h)
  have KAP := Lib.hid (fun (W : World) (h : RdR W A rs) (hs : RnSm rs) => rnApart_any rs A c W h hs hn)
  have KBL := Lib.hid (fun (W : World) (h : RdR W A rs) => rnBlocks_any ⟨t, l, s⟩ A rs c W h hn)
  have KND := Lib.hid (fun (W : World) => rnNeeds_any ⟨t, l, s⟩ A rs c W hf)
  have KD := Lib.hid (fun W => refData_any g W)
  rw [if_pos hg, if_pos hg] at KD
  obtain ⟨j1, j2, j3, j4, j5, j6, j7, j8, j9, j10⟩ := geo_nums hg
  clear j6 j7 j8 j9 j10
  rcases ht3 with rfl | rfl | rfl
  · skip
    have HC := Lib.hid (cn1 (g := g) (l := l) (s := s) (rs := rs))
    have HNC := Lib.hid (HNC.out (by decide))
    clear ht hf
    generalize CN g ⟨1, l, s⟩ rs = cn at *
    generalize goodN g ⟨1, l, s⟩ rs = pb at *
    generalize isLost g ⟨1, l, s⟩ rs = il at *
    generalize okR g il = okr at *
    generalize apTo rs rs.length = ap at *
    generalize sumR rs = sm at *
    generalize needsN ⟨1, l, s⟩ = nd at *
    generalize g.df = df at *
    generalize g.dn = dn at *
    generalize (rs == [(g.lf, g.n)]) = ls at *
    clear hg
    obtain ⟨gb, gn, gc, gk⟩ := g
    unfold nodeV at *
    simp only [Geo.v] at *
    have HGX := Lib.hid (heap_below (heap_alloc_new w (.cells #[.int .i64 gb, .int .i64 gn, .int .i64 gc, .int .i64 gk] 44)) ((Below.refl _ _).alloc (Nat.le_refl _) (.cells #[.int .i64 1, .int .i64 l, .int .i64 s, .slice A rs.length c] 93)))
    have HBX := Lib.hid (show ((w.alloc (.cells #[.int .i64 gb, .int .i64 gn, .int .i64 gc, .int .i64 gk] 44)).alloc (.cells #[.int .i64 1, .int .i64 l, .int .i64 s, .slice A rs.length c] 93)).heap[w.heap.size + 1]? = some (.cells #[.int .i64 1, .int .i64 l, .int .i64 s, .slice A rs.length c] 93 (0, 0)) by have h := heap_alloc_new (w.alloc (.cells #[.int .i64 gb, .int .i64 gn, .int .i64 gc, .int .i64 gk] 44)) (.cells #[.int .i64 1, .int .i64 l, .int .i64 s, .slice A rs.length c] 93); simpa using h)
    have HW := Lib.hid (((Below.refl w.heap.size w).alloc (Nat.le_refl _) (.cells #[.int .i64 gb, .int .i64 gn, .int .i64 gc, .int .i64 gk] 44)).alloc (by simp) (.cells #[.int .i64 1, .int .i64 l, .int .i64 s, .slice A rs.length c] 93))
    have HIL2 := Lib.hid (show il = false by rw [HIL.out]; rfl)
    clear HIL
    by_cases p0 : l < 1
    · have HR := Lib.hid (HNC.out (fun h => by have := HC.out.1 h; omega))
      clear HNC HC HFORM HIFF HBAD HNX HSM KIL KAP KBL KND KD HIL2
      obtain ⟨i0, i1, i2, i3⟩ := cells4 HGX.out
      obtain ⟨c0, c1, c2, c3⟩ := cells4 HBX.out
      go_enter Try.func57, Try.ntmps57
      simp only [List.append_eq, List.nil_append, List.cons_append]
      go_wp2_with fail
      refine (KG.out _).mono ?_
      rintro e w1 ⟨rfl, hb⟩
      have HW := Lib.hid (HW.out.trans (hb.mono HW.out.size))
      have HGX := Lib.hid (heap_below HGX.out hb)
      have HBX := Lib.hid (heap_below HBX.out hb)
      clear hb
      clear i0 i1 i2 i3 c0 c1 c2 c3
      obtain ⟨i0, i1, i2, i3⟩ := cells4 HGX.out
      obtain ⟨c0, c1, c2, c3⟩ := cells4 HBX.out
      go_wp2
      go_ret
      exact ⟨ret_bool HR.out, HW.out⟩
    by_cases p1 : 200 < l
    · have HR := Lib.hid (HNC.out (fun h => by have := HC.out.1 h; omega))
      clear HNC HC HFORM HIFF HBAD HNX HSM KIL KAP KBL KND KD HIL2
      obtain ⟨i0, i1, i2, i3⟩ := cells4 HGX.out
      obtain ⟨c0, c1, c2, c3⟩ := cells4 HBX.out
      go_enter Try.func57, Try.ntmps57
      simp only [List.append_eq, List.nil_append, List.cons_append]
      go_wp2_with fail
      refine (KG.out _).mono ?_
      rintro e w1 ⟨rfl, hb⟩
      have HW := Lib.hid (HW.out.trans (hb.mono HW.out.size))
      have HGX := Lib.hid (heap_below HGX.out hb)
      have HBX := Lib.hid (heap_below HBX.out hb)
      clear hb
      clear i0 i1 i2 i3 c0 c1 c2 c3
      obtain ⟨i0, i1, i2, i3⟩ := cells4 HGX.out
      obtain ⟨c0, c1, c2, c3⟩ := cells4 HBX.out
      go_wp2
      go_ret
      exact ⟨ret_bool HR.out, HW.out⟩
    by_cases p2 : s < 0
    · have HR := Lib.hid (HNC.out (fun h => by have := HC.out.1 h; omega))
      clear HNC HC HFORM HIFF HBAD HNX HSM KIL KAP KBL KND KD HIL2
      obtain ⟨i0, i1, i2, i3⟩ := cells4 HGX.out
      obtain ⟨c0, c1, c2, c3⟩ := cells4 HBX.out
      go_enter Try.func57, Try.ntmps57
      simp only [List.append_eq, List.nil_append, List.cons_append]
      go_wp2_with fail
      refine (KG.out _).mono ?_
      rintro e w1 ⟨rfl, hb⟩
      have HW := Lib.hid (HW.out.trans (hb.mono HW.out.size))
      have HGX := Lib.hid (heap_below HGX.out hb)
      have HBX := Lib.hid (heap_below HBX.out hb)
      clear hb
      clear i0 i1 i2 i3 c0 c1 c2 c3
      obtain ⟨i0, i1, i2, i3⟩ := cells4 HGX.out
      obtain ⟨c0, c1, c2, c3⟩ := cells4 HBX.out
      go_wp2
      go_ret
      exact ⟨ret_bool HR.out, HW.out⟩
    by_cases p3 : 4096 < s
    · have HR := Lib.hid (HNC.out (fun h => by have := HC.out.1 h; omega))
      clear HNC HC HFORM HIFF HBAD HNX HSM KIL KAP KBL KND KD HIL2
      obtain ⟨i0, i1, i2, i3⟩ := cells4 HGX.out
      obtain ⟨c0, c1, c2, c3⟩ := cells4 HBX.out
      go_enter Try.func57, Try.ntmps57
      simp only [List.append_eq, List.nil_append, List.cons_append]
      go_wp2_with fail
      refine (KG.out _).mono ?_
      rintro e w1 ⟨rfl, hb⟩
      have HW := Lib.hid (HW.out.trans (hb.mono HW.out.size))
      have HGX := Lib.hid (heap_below HGX.out hb)
      have HBX := Lib.hid (heap_below HBX.out hb)
      clear hb
      clear i0 i1 i2 i3 c0 c1 c2 c3
      obtain ⟨i0, i1, i2, i3⟩ := cells4 HGX.out
      obtain ⟨c0, c1, c2, c3⟩ := cells4 HBX.out
      go_wp2
      go_ret
      exact ⟨ret_bool HR.out, HW.out⟩
    by_cases p4 : 4 < (rs.length : Int)
    · have HR := Lib.hid (HNC.out (fun h => by have := HC.out.1 h; omega))
      clear HNC HC HFORM HIFF HBAD HNX HSM KIL KAP KBL KND KD HIL2
      obtain ⟨i0, i1, i2, i3⟩ := cells4 HGX.out
      obtain ⟨c0, c1, c2, c3⟩ := cells4 HBX.out
      go_enter Try.func57, Try.ntmps57
      simp only [List.append_eq, List.nil_append, List.cons_append]
      go_wp2_with fail
      refine (KG.out _).mono ?_
      rintro e w1 ⟨rfl, hb⟩
      have HW := Lib.hid (HW.out.trans (hb.mono HW.out.size))
      have HGX := Lib.hid (heap_below HGX.out hb)
      have HBX := Lib.hid (heap_below HBX.out hb)
      clear hb
      clear i0 i1 i2 i3 c0 c1 c2 c3
      obtain ⟨i0, i1, i2, i3⟩ := cells4 HGX.out
      obtain ⟨c0, c1, c2, c3⟩ := cells4 HBX.out
      go_wp2
      go_ret
      exact ⟨ret_bool HR.out, HW.out⟩
    have HFORM := Lib.hid (HFORM.out (HC.out.2 (by omega)))
    clear HNC HC
    obtain ⟨i0, i1, i2, i3⟩ := cells4 HGX.out
    obtain ⟨c0, c1, c2, c3⟩ := cells4 HBX.out
    go_enter Try.func57, Try.ntmps57
    simp only [List.append_eq, List.nil_append, List.cons_append]
    go_wp2_with fail
    refine (KG.out _).mono ?_
    rintro e w1 ⟨rfl, hb⟩
    have HW := Lib.hid (HW.out.trans (hb.mono HW.out.size))
    have HGX := Lib.hid (heap_below HGX.out hb)
    have HBX := Lib.hid (heap_below HBX.out hb)
    clear hb
    clear i0 i1 i2 i3 c0 c1 c2 c3
    obtain ⟨i0, i1, i2, i3⟩ := cells4 HGX.out
    obtain ⟨c0, c1, c2, c3⟩ := cells4 HBX.out
    go_wp2_with fail
    refine (KD.out _).mono ?_
    rintro e w2 ⟨rfl, hb⟩
    have HW := Lib.hid (HW.out.trans (hb.mono HW.out.size))
    have HGX := Lib.hid (heap_below HGX.out hb)
    have HBX := Lib.hid (heap_below HBX.out hb)
    clear hb
    clear i0 i1 i2 i3 c0 c1 c2 c3
    obtain ⟨c0, c1, c2, c3⟩ := cells4 HBX.out
    go_wp2
    clear c0 c1 c2 c3 KG KD p0 p1 p2 p3 p4
    go_loopw [7] (fun i wr => ∃ k : Nat, k ≤ rs.length ∧ i = .int .i64 k ∧ Go.RowKit.Hid ((rs.take k).all okr = true) ∧ wr.heap[w.heap.size]? = some (.cells #[.int .i64 gb, .int .i64 gn, .int .i64 gc, .int .i64 gk] 44 (0, 0)) ∧ wr.heap[w.heap.size + 1]? = some (.cells #[.int .i64 1, .int .i64 l, .int .i64 s, .slice A rs.length c] 93 (0, 0)) ∧ Below w.heap.size w wr) (fun i _ => rs.length - (intOf i).toNat)
    case atStart => exact ⟨0, by omega, rfl, Lib.hid rfl, HGX.out, HBX.out, HW.out⟩
    case round =>
      obtain ⟨k, hk, rfl, hpt, hgx, hbx, hbw⟩ := hrel
      have HPT := Lib.hid hpt.out
      have HGR := Lib.hid hgx
      have HBX := Lib.hid hbx
      have HB := Lib.hid hbw
      clear hpt hbx hbw hgx HW
      obtain ⟨c0, c1, c2, c3⟩ := cells4 HBX.out
      by_cases hlt : k < rs.length
      · obtain ⟨lb, lo, rfl, hlc⟩ := (HL.out.below HB.out).at_ hlt
        obtain ⟨hk1, hk2⟩ := hlc k hlt
        have HBADK := Lib.hid (HBAD.out k hlt)
        have HNXK := Lib.hid (HNX.out k hlt HPT.out)
        clear hlc
        generalize hrk : rs[k] = zv at *
        clear hrk
        obtain ⟨z, v⟩ := zv
        simp only at hk1 hk2
        have HINZ := Lib.hid (HIFF.out (z, v))
        have e1 : IntKind.i64.wrap ((k : Int) + 1) = (k : Int) + 1 := IntWalk.i64_in _ (by omega)
        have HX1 := Lib.hid (heap_alloc_new wr (.cells #[.int .i64 z, .int .i64 v] 135))
        have hba : Below wr.heap.size wr (wr.alloc (.cells #[.int .i64 z, .int .i64 v] 135)) := (Below.refl _ _).alloc (Nat.le_refl _) _
        have HB1 := Lib.hid (HB.out.trans (hba.mono HB.out.size))
        have HBX1 := Lib.hid (heap_below HBX.out hba)
        have HGX1 := Lib.hid (heap_below HGR.out hba)
        clear hba
        obtain ⟨b0, b1, b2, b3⟩ := cells4 HBX1.out
        obtain ⟨d0, d1, d2, d3⟩ := cells4 HGX1.out
        obtain ⟨x0, x1⟩ := cells2 HX1.out
        by_cases q0 : v < 1
        · skip
          have HR := Lib.hid (show false = pb by
            rw [HFORM.out, HBADK.out (by rw [Bool.eq_false_iff]; intro h; have := HINZ.out.1 h; omega)]
            rfl)
          clear HINZ
          go_wp2
          go_ret
          exact ⟨ret_bool HR.out, HB1.out⟩
        by_cases q1 : z < 0
        · skip
          have HR := Lib.hid (show false = pb by
            rw [HFORM.out, HBADK.out (by rw [Bool.eq_false_iff]; intro h; have := HINZ.out.1 h; omega)]
            rfl)
          clear HINZ
          go_wp2
          go_ret
          exact ⟨ret_bool HR.out, HB1.out⟩
        by_cases q2 : 1024 < z
        · skip
          have HR := Lib.hid (show false = pb by
            rw [HFORM.out, HBADK.out (by rw [Bool.eq_false_iff]; intro h; have := HINZ.out.1 h; omega)]
            rfl)
          clear HINZ
          go_wp2
          go_ret
          exact ⟨ret_bool HR.out, HB1.out⟩
        by_cases q3 : 1024 < v
        · skip
          have HR := Lib.hid (show false = pb by
            rw [HFORM.out, HBADK.out (by rw [Bool.eq_false_iff]; intro h; have := HINZ.out.1 h; omega)]
            rfl)
          clear HINZ
          go_wp2
          go_ret
          exact ⟨ret_bool HR.out, HB1.out⟩
        have e2 : IntKind.i64.wrap (z + v) = z + v := IntWalk.i64_in _ (by omega)
        have e3 : IntKind.i64.wrap (df + dn) = df + dn := IntWalk.i64_in _ (by omega)
        by_cases q5 : z < df
        · skip
          have HR := Lib.hid (show false = pb by
            rw [HFORM.out, HBADK.out (by rw [Bool.eq_false_iff]; intro h; have := HINZ.out.1 h; rw [HIL2.out] at this; simp at this; omega)]
            rfl)
          clear HINZ
          go_wp2
          go_ret
          exact ⟨ret_bool HR.out, HB1.out⟩
        by_cases q6 : df + dn < z + v
        · skip
          have HR := Lib.hid (show false = pb by
            rw [HFORM.out, HBADK.out (by rw [Bool.eq_false_iff]; intro h; have := HINZ.out.1 h; rw [HIL2.out] at this; simp at this; omega)]
            rfl)
          clear HINZ
          go_wp2
          go_ret
          exact ⟨ret_bool HR.out, HB1.out⟩
        have HN2 := Lib.hid (HNXK.out (HINZ.out.2 ⟨by omega, .inl (by omega)⟩))
        clear HINZ
        go_wp2
        go_roundw
        case rel => exact ⟨k + 1, by omega, by go_num, Lib.hid HN2.out, HGX1.out, HBX1.out, HB1.out⟩
        case measure => simp [intOf]; omega
      · obtain rfl : k = rs.length := by omega
        rw [List.take_length] at HPT
        have HS2 := Lib.hid (HSM.out HPT.out)
        have HFORM := Lib.hid (show pb = (ap && (sm == nd)) by rw [HFORM.out, HPT.out]; rfl)
        have HLR := Lib.hid (HL.out.below HB.out)
        clear HBAD HNX HIFF HPT HSM KIL HIL2 hlt hk
        cases ap with
        | false =>
          have HR := Lib.hid (show false = pb by rw [HFORM.out]; rfl)
          clear HFORM
          go_wp2_with fail
          clear c0 c1 c2 c3
          apply wp_region_inv' 155 (Eqs _ :: Eqs _ :: Eqs _ :: Eqs _ :: Eqs _ :: Eqs _ :: Eqs _ :: Eqs _ :: Eqs _ :: Eqs _ :: Eqs _ :: []) (by kernel_rfl) (by rfl) (stab_cons (stab_eq _) (stab_cons (stab_eq _) (stab_cons (stab_eq _) (stab_cons (stab_eq _) (stab_cons (stab_eq _) (stab_cons (stab_eq _) (stab_cons (stab_eq _) (stab_cons (stab_eq _) (stab_cons (stab_eq _) (stab_cons (stab_eq _) (stab_cons (stab_eq _) stab_nil))))))))))) (by kernel_rfl) (by kernel_rfl)
          case hstep =>
            refine StepsOK.cons ?_ ?_
            · -- 0: Go.Op.fieldAddr 93 (Go.Operand.tmp 3) 3
              intro a w1 hR1 hF hU hsz
              have e3 : a.eval (.tmp 3) = _ := hU 3 (by kernel_rfl)
              rw [if_pos (by rfl)]
              intro K hK
              clear hF hU hsz
              obtain ⟨q1, q2, q3⟩ := eval_rest a
              generalize hρ : a.eval = ρ
              rw [hρ] at q1 q2 q3 e3
              clear hρ
              have u1 := OpUp_value Try.prog K
              have u2 := OpUp_enter Try.prog K
              go_simp
              exact hK _ _ (Stood.refl _) rfl
            refine StepsOK.cons ?_ ?_
            · -- 1: Go.Op.load 91 (Go.Operand.tmp 145)
              intro a w1 hR1 hF hU hsz
              have e145 : a.eval (.tmp 145) = _ := hF 0 _ _ rfl rfl (by kernel_rfl)
              rw [if_pos (by rfl)]
              intro K hK
              clear hF hU hsz
              obtain ⟨i0_, i1_, i2_, i3_⟩ := cells4 (heap_below HBX.out (Stood.cur hR1))
              obtain ⟨q1, q2, q3⟩ := eval_rest a
              generalize hρ : a.eval = ρ
              rw [hρ] at q1 q2 q3 e145
              clear hρ
              have u1 := OpUp_value Try.prog K
              have u2 := OpUp_enter Try.prog K
              go_simp
              exact hK _ _ (Stood.refl _) rfl
            refine StepsOK.cons ?_ ?_
            · -- 2: Go.Op.call { callee := Go.Callee.value (Go.Operand.func 95), args := #[Go.Operan
              intro a w1 hR1 hF hU hsz
              have e146 : a.eval (.tmp 146) = _ := hF 1 _ _ rfl rfl (by kernel_rfl)
              rw [if_pos (by rfl)]
              intro K hK
              clear hF hU hsz
              obtain ⟨q1, q2, q3⟩ := eval_rest a
              generalize hρ : a.eval = ρ
              rw [hρ] at q1 q2 q3 e146
              clear hρ
              have u1 := OpUp_value Try.prog K
              have u2 := OpUp_enter Try.prog K
              go_simp
              refine (KAP.out w1 (HLR.out.below (Stood.cur hR1)) HS2.out).mono ?_
              rintro e w' ⟨rfl, hd⟩
              exact ⟨_, rfl, hK _ _ (hd.below _) rfl⟩
            refine StepsOK.cons ?_ ?_
            · -- 3: Go.Op.move (Go.Operand.tmp 147)
              intro a w1 hR1 hF hU hsz
              have e147 : a.eval (.tmp 147) = _ := hF 2 _ _ rfl rfl (by kernel_rfl)
              rw [if_pos (by rfl)]
              intro K hK
              clear hF hU hsz
              obtain ⟨q1, q2, q3⟩ := eval_rest a
              generalize hρ : a.eval = ρ
              rw [hρ] at q1 q2 q3 e147
              clear hρ
              have u1 := OpUp_value Try.prog K
              have u2 := OpUp_enter Try.prog K
              go_simp
              exact hK _ _ (Stood.refl _) rfl
            refine StepsOK.cons ?_ ?_
            · -- 4: Go.Op.load 93 (Go.Operand.tmp 3)
              intro a w1 hR1 hF hU hsz
              have e3 : a.eval (.tmp 3) = _ := hU 3 (by kernel_rfl)
              have e148 : a.eval (.tmp 148) = _ := hF 3 _ _ rfl rfl (by kernel_rfl)
              rw [wanted_guard (ops := _) rfl rfl rfl e148, if_neg (by decide)]
            refine StepsOK.cons ?_ ?_
            · -- 5: Go.Op.call { callee := Go.Callee.value (Go.Operand.func 62), args := #[Go.Operan
              intro a w1 hR1 hF hU hsz
              have e149 : a.eval (.tmp 149) = _ := hF 4 _ _ rfl rfl (by kernel_rfl)
              have e148 : a.eval (.tmp 148) = _ := hF 3 _ _ rfl rfl (by kernel_rfl)
              rw [wanted_guard (ops := _) rfl rfl rfl e148, if_neg (by decide)]
            refine StepsOK.cons ?_ ?_
            · -- 6: Go.Op.load 93 (Go.Operand.tmp 3)
              intro a w1 hR1 hF hU hsz
              have e3 : a.eval (.tmp 3) = _ := hU 3 (by kernel_rfl)
              have e148 : a.eval (.tmp 148) = _ := hF 3 _ _ rfl rfl (by kernel_rfl)
              rw [wanted_guard (ops := _) rfl rfl rfl e148, if_neg (by decide)]
            refine StepsOK.cons ?_ ?_
            · -- 7: Go.Op.call { callee := Go.Callee.value (Go.Operand.func 63), args := #[Go.Operan
              intro a w1 hR1 hF hU hsz
              have e151 : a.eval (.tmp 151) = _ := hF 6 _ _ rfl rfl (by kernel_rfl)
              have e148 : a.eval (.tmp 148) = _ := hF 3 _ _ rfl rfl (by kernel_rfl)
              rw [wanted_guard (ops := _) rfl rfl rfl e148, if_neg (by decide)]
            refine StepsOK.cons ?_ ?_
            · -- 8: Go.Op.binOp Go.BinOp.eql 3 (Go.Operand.tmp 150) (Go.Operand.tmp 152) 3
              intro a w1 hR1 hF hU hsz
              have e150 : a.eval (.tmp 150) = _ := hF 5 _ _ rfl rfl (by kernel_rfl)
              have e152 : a.eval (.tmp 152) = _ := hF 7 _ _ rfl rfl (by kernel_rfl)
              have e148 : a.eval (.tmp 148) = _ := hF 3 _ _ rfl rfl (by kernel_rfl)
              rw [wanted_guard (ops := _) rfl rfl rfl e148, if_neg (by decide)]
            refine StepsOK.cons ?_ ?_
            · -- 9: Go.Op.pick (Go.Operand.tmp 148) (Go.Operand.tmp 153) (Go.Operand.const (Go.Value
              intro a w1 hR1 hF hU hsz
              have e148 : a.eval (.tmp 148) = _ := hF 3 _ _ rfl rfl (by kernel_rfl)
              have e153 : a.eval (.tmp 153) = _ := hF 8 _ _ rfl rfl (by kernel_rfl)
              rw [if_pos (by rfl)]
              intro K hK
              clear hF hU hsz
              obtain ⟨q1, q2, q3⟩ := eval_rest a
              generalize hρ : a.eval = ρ
              rw [hρ] at q1 q2 q3 e148 e153
              clear hρ
              have u1 := OpUp_value Try.prog K
              have u2 := OpUp_enter Try.prog K
              go_simp
              exact hK _ _ (Stood.refl _) rfl
            refine StepsOK.cons ?_ ?_
            · -- 10: Go.Op.assign (Go.Operand.tmp 154)
              intro a w1 hR1 hF hU hsz
              have e154 : a.eval (.tmp 154) = _ := hF 9 _ _ rfl rfl (by kernel_rfl)
              rw [if_pos (by rfl)]
              intro K hK
              clear hF hU hsz
              obtain ⟨q1, q2, q3⟩ := eval_rest a
              generalize hρ : a.eval = ρ
              rw [hρ] at q1 q2 q3 e154
              clear hρ
              have u1 := OpUp_value Try.prog K
              have u2 := OpUp_enter Try.prog K
              go_simp
              exact hK _ _ (Stood.refl _) rfl
            exact StepsOK.nil
          case hend =>
            intro vs0 w1 hR1 hH0
            obtain ⟨vs1, rfl, hH1⟩ := hH0.eq_
            obtain ⟨vs2, rfl, hH2⟩ := hH1.eq_
            obtain ⟨vs3, rfl, hH3⟩ := hH2.eq_
            obtain ⟨vs4, rfl, hH4⟩ := hH3.eq_
            obtain ⟨vs5, rfl, hH5⟩ := hH4.eq_
            obtain ⟨vs6, rfl, hH6⟩ := hH5.eq_
            obtain ⟨vs7, rfl, hH7⟩ := hH6.eq_
            obtain ⟨vs8, rfl, hH8⟩ := hH7.eq_
            obtain ⟨vs9, rfl, hH9⟩ := hH8.eq_
            obtain ⟨vs10, rfl, hH10⟩ := hH9.eq_
            obtain ⟨vs11, rfl, hH11⟩ := hH10.eq_
            obtain rfl := hH11.nil
            clear hH0 hH1 hH2 hH3 hH4 hH5 hH6 hH7 hH8 hH9 hH10 hH11
            simp only [putAll, Act.put, List.setIfInBounds_toArray, List.set_cons_zero, List.set_cons_succ]
            have HB := Lib.hid (HB.out.trans ((Stood.cur hR1).mono HB.out.size))
            go_wp2
            go_ret
            exact ⟨ret_bool HR.out, HB.out⟩
        | true =>
          have HR := Lib.hid (show (sm == nd) = pb by rw [HFORM.out]; rfl)
          clear HFORM
          go_wp2_with fail
          clear c0 c1 c2 c3
          apply wp_region_inv' 155 (Eqs _ :: Eqs _ :: Eqs _ :: Eqs _ :: Eqs _ :: Eqs _ :: Eqs _ :: Eqs _ :: Eqs _ :: Eqs _ :: Eqs _ :: []) (by kernel_rfl) (by rfl) (stab_cons (stab_eq _) (stab_cons (stab_eq _) (stab_cons (stab_eq _) (stab_cons (stab_eq _) (stab_cons (stab_eq _) (stab_cons (stab_eq _) (stab_cons (stab_eq _) (stab_cons (stab_eq _) (stab_cons (stab_eq _) (stab_cons (stab_eq _) (stab_cons (stab_eq _) stab_nil))))))))))) (by kernel_rfl) (by kernel_rfl)
          case hstep =>
            refine StepsOK.cons ?_ ?_
            · -- 0: Go.Op.fieldAddr 93 (Go.Operand.tmp 3) 3
              intro a w1 hR1 hF hU hsz
              have e3 : a.eval (.tmp 3) = _ := hU 3 (by kernel_rfl)
              rw [if_pos (by rfl)]
              intro K hK
              clear hF hU hsz
              obtain ⟨q1, q2, q3⟩ := eval_rest a
              generalize hρ : a.eval = ρ
              rw [hρ] at q1 q2 q3 e3
              clear hρ
              have u1 := OpUp_value Try.prog K
              have u2 := OpUp_enter Try.prog K
              go_simp
              exact hK _ _ (Stood.refl _) rfl
            refine StepsOK.cons ?_ ?_
            · -- 1: Go.Op.load 91 (Go.Operand.tmp 145)
              intro a w1 hR1 hF hU hsz
              have e145 : a.eval (.tmp 145) = _ := hF 0 _ _ rfl rfl (by kernel_rfl)
              rw [if_pos (by rfl)]
              intro K hK
              clear hF hU hsz
              obtain ⟨i0_, i1_, i2_, i3_⟩ := cells4 (heap_below HBX.out (Stood.cur hR1))
              obtain ⟨q1, q2, q3⟩ := eval_rest a
              generalize hρ : a.eval = ρ
              rw [hρ] at q1 q2 q3 e145
              clear hρ
              have u1 := OpUp_value Try.prog K
              have u2 := OpUp_enter Try.prog K
              go_simp
              exact hK _ _ (Stood.refl _) rfl
            refine StepsOK.cons ?_ ?_
            · -- 2: Go.Op.call { callee := Go.Callee.value (Go.Operand.func 95), args := #[Go.Operan
              intro a w1 hR1 hF hU hsz
              have e146 : a.eval (.tmp 146) = _ := hF 1 _ _ rfl rfl (by kernel_rfl)
              rw [if_pos (by rfl)]
              intro K hK
              clear hF hU hsz
              obtain ⟨q1, q2, q3⟩ := eval_rest a
              generalize hρ : a.eval = ρ
              rw [hρ] at q1 q2 q3 e146
              clear hρ
              have u1 := OpUp_value Try.prog K
              have u2 := OpUp_enter Try.prog K
              go_simp
              refine (KAP.out w1 (HLR.out.below (Stood.cur hR1)) HS2.out).mono ?_
              rintro e w' ⟨rfl, hd⟩
              exact ⟨_, rfl, hK _ _ (hd.below _) rfl⟩
            refine StepsOK.cons ?_ ?_
            · -- 3: Go.Op.move (Go.Operand.tmp 147)
              intro a w1 hR1 hF hU hsz
              have e147 : a.eval (.tmp 147) = _ := hF 2 _ _ rfl rfl (by kernel_rfl)
              rw [if_pos (by rfl)]
              intro K hK
              clear hF hU hsz
              obtain ⟨q1, q2, q3⟩ := eval_rest a
              generalize hρ : a.eval = ρ
              rw [hρ] at q1 q2 q3 e147
              clear hρ
              have u1 := OpUp_value Try.prog K
              have u2 := OpUp_enter Try.prog K
              go_simp
              exact hK _ _ (Stood.refl _) rfl
            refine StepsOK.cons ?_ ?_
            · -- 4: Go.Op.load 93 (Go.Operand.tmp 3)
              intro a w1 hR1 hF hU hsz
              have e3 : a.eval (.tmp 3) = _ := hU 3 (by kernel_rfl)
              have e148 : a.eval (.tmp 148) = _ := hF 3 _ _ rfl rfl (by kernel_rfl)
              rw [wanted_guard (ops := _) rfl rfl rfl e148, if_pos (by rfl)]
              intro K hK
              clear hF hU hsz
              obtain ⟨i0_, i1_, i2_, i3_⟩ := cells4 (heap_below HBX.out (Stood.cur hR1))
              obtain ⟨q1, q2, q3⟩ := eval_rest a
              generalize hρ : a.eval = ρ
              rw [hρ] at q1 q2 q3 e3 e148
              clear hρ
              have u1 := OpUp_value Try.prog K
              have u2 := OpUp_enter Try.prog K
              go_simp
              exact hK _ _ (Stood.refl _) rfl
            refine StepsOK.cons ?_ ?_
            · -- 5: Go.Op.call { callee := Go.Callee.value (Go.Operand.func 62), args := #[Go.Operan
              intro a w1 hR1 hF hU hsz
              have e149 : a.eval (.tmp 149) = _ := hF 4 _ _ rfl rfl (by kernel_rfl)
              have e148 : a.eval (.tmp 148) = _ := hF 3 _ _ rfl rfl (by kernel_rfl)
              rw [wanted_guard (ops := _) rfl rfl rfl e148, if_pos (by rfl)]
              intro K hK
              clear hF hU hsz
              obtain ⟨q1, q2, q3⟩ := eval_rest a
              generalize hρ : a.eval = ρ
              rw [hρ] at q1 q2 q3 e148 e149
              clear hρ
              have u1 := OpUp_value Try.prog K
              have u2 := OpUp_enter Try.prog K
              go_simp
              refine (KBL.out w1 (HLR.out.below (Stood.cur hR1))).mono ?_
              rintro e w' ⟨rfl, hb⟩
              exact ⟨_, rfl, hK _ _ hb rfl⟩
            refine StepsOK.cons ?_ ?_
            · -- 6: Go.Op.load 93 (Go.Operand.tmp 3)
              intro a w1 hR1 hF hU hsz
              have e3 : a.eval (.tmp 3) = _ := hU 3 (by kernel_rfl)
              have e148 : a.eval (.tmp 148) = _ := hF 3 _ _ rfl rfl (by kernel_rfl)
              rw [wanted_guard (ops := _) rfl rfl rfl e148, if_pos (by rfl)]
              intro K hK
              clear hF hU hsz
              obtain ⟨i0_, i1_, i2_, i3_⟩ := cells4 (heap_below HBX.out (Stood.cur hR1))
              obtain ⟨q1, q2, q3⟩ := eval_rest a
              generalize hρ : a.eval = ρ
              rw [hρ] at q1 q2 q3 e3 e148
              clear hρ
              have u1 := OpUp_value Try.prog K
              have u2 := OpUp_enter Try.prog K
              go_simp
              exact hK _ _ (Stood.refl _) rfl
            refine StepsOK.cons ?_ ?_
            · -- 7: Go.Op.call { callee := Go.Callee.value (Go.Operand.func 63), args := #[Go.Operan
              intro a w1 hR1 hF hU hsz
              have e151 : a.eval (.tmp 151) = _ := hF 6 _ _ rfl rfl (by kernel_rfl)
              have e148 : a.eval (.tmp 148) = _ := hF 3 _ _ rfl rfl (by kernel_rfl)
              rw [wanted_guard (ops := _) rfl rfl rfl e148, if_pos (by rfl)]
              intro K hK
              clear hF hU hsz
              obtain ⟨q1, q2, q3⟩ := eval_rest a
              generalize hρ : a.eval = ρ
              rw [hρ] at q1 q2 q3 e148 e151
              clear hρ
              have u1 := OpUp_value Try.prog K
              have u2 := OpUp_enter Try.prog K
              go_simp
              refine (KND.out w1).mono ?_
              rintro e w' ⟨rfl, hb⟩
              exact ⟨_, rfl, hK _ _ hb rfl⟩
            refine StepsOK.cons ?_ ?_
            · -- 8: Go.Op.binOp Go.BinOp.eql 3 (Go.Operand.tmp 150) (Go.Operand.tmp 152) 3
              intro a w1 hR1 hF hU hsz
              have e150 : a.eval (.tmp 150) = _ := hF 5 _ _ rfl rfl (by kernel_rfl)
              have e152 : a.eval (.tmp 152) = _ := hF 7 _ _ rfl rfl (by kernel_rfl)
              have e148 : a.eval (.tmp 148) = _ := hF 3 _ _ rfl rfl (by kernel_rfl)
              rw [wanted_guard (ops := _) rfl rfl rfl e148, if_pos (by rfl)]
              intro K hK
              clear hF hU hsz
              obtain ⟨q1, q2, q3⟩ := eval_rest a
              generalize hρ : a.eval = ρ
              rw [hρ] at q1 q2 q3 e148 e150 e152
              clear hρ
              have u1 := OpUp_value Try.prog K
              have u2 := OpUp_enter Try.prog K
              go_simp
              exact hK _ _ (Stood.refl _) rfl
            refine StepsOK.cons ?_ ?_
            · -- 9: Go.Op.pick (Go.Operand.tmp 148) (Go.Operand.tmp 153) (Go.Operand.const (Go.Value
              intro a w1 hR1 hF hU hsz
              have e148 : a.eval (.tmp 148) = _ := hF 3 _ _ rfl rfl (by kernel_rfl)
              have e153 : a.eval (.tmp 153) = _ := hF 8 _ _ rfl rfl (by kernel_rfl)
              rw [if_pos (by rfl)]
              intro K hK
              clear hF hU hsz
              obtain ⟨q1, q2, q3⟩ := eval_rest a
              generalize hρ : a.eval = ρ
              rw [hρ] at q1 q2 q3 e148 e153
              clear hρ
              have u1 := OpUp_value Try.prog K
              have u2 := OpUp_enter Try.prog K
              go_simp
              exact hK _ _ (Stood.refl _) rfl
            refine StepsOK.cons ?_ ?_
            · -- 10: Go.Op.assign (Go.Operand.tmp 154)
              intro a w1 hR1 hF hU hsz
              have e154 : a.eval (.tmp 154) = _ := hF 9 _ _ rfl rfl (by kernel_rfl)
              rw [if_pos (by rfl)]
              intro K hK
              clear hF hU hsz
              obtain ⟨q1, q2, q3⟩ := eval_rest a
              generalize hρ : a.eval = ρ
              rw [hρ] at q1 q2 q3 e154
              clear hρ
              have u1 := OpUp_value Try.prog K
              have u2 := OpUp_enter Try.prog K
              go_simp
              exact hK _ _ (Stood.refl _) rfl
            exact StepsOK.nil
          case hend =>
            intro vs0 w1 hR1 hH0
            obtain ⟨vs1, rfl, hH1⟩ := hH0.eq_
            obtain ⟨vs2, rfl, hH2⟩ := hH1.eq_
            obtain ⟨vs3, rfl, hH3⟩ := hH2.eq_
            obtain ⟨vs4, rfl, hH4⟩ := hH3.eq_
            obtain ⟨vs5, rfl, hH5⟩ := hH4.eq_
            obtain ⟨vs6, rfl, hH6⟩ := hH5.eq_
            obtain ⟨vs7, rfl, hH7⟩ := hH6.eq_
            obtain ⟨vs8, rfl, hH8⟩ := hH7.eq_
            obtain ⟨vs9, rfl, hH9⟩ := hH8.eq_
            obtain ⟨vs10, rfl, hH10⟩ := hH9.eq_
            obtain ⟨vs11, rfl, hH11⟩ := hH10.eq_
            obtain rfl := hH11.nil
            clear hH0 hH1 hH2 hH3 hH4 hH5 hH6 hH7 hH8 hH9 hH10 hH11
            simp only [putAll, Act.put, List.setIfInBounds_toArray, List.set_cons_zero, List.set_cons_succ]
            have HB := Lib.hid (HB.out.trans ((Stood.cur hR1).mono HB.out.size))
            go_wp2
            go_ret
            exact ⟨ret_bool HR.out, HB.out⟩
  · skip
    have HC := Lib.hid (cn2 (g := g) (l := l) (s := s) (rs := rs))
    have HNC := Lib.hid (HNC.out (by decide))
    clear ht hf
    generalize CN g ⟨2, l, s⟩ rs = cn at *
    generalize goodN g ⟨2, l, s⟩ rs = pb at *
    generalize isLost g ⟨2, l, s⟩ rs = il at *
    generalize okR g il = okr at *
    generalize apTo rs rs.length = ap at *
    generalize sumR rs = sm at *
    generalize needsN ⟨2, l, s⟩ = nd at *
    generalize g.df = df at *
    generalize g.dn = dn at *
    generalize (rs == [(g.lf, g.n)]) = ls at *
    clear hg
    obtain ⟨gb, gn, gc, gk⟩ := g
    unfold nodeV at *
    simp only [Geo.v] at *
    have HGX := Lib.hid (heap_below (heap_alloc_new w (.cells #[.int .i64 gb, .int .i64 gn, .int .i64 gc, .int .i64 gk] 44)) ((Below.refl _ _).alloc (Nat.le_refl _) (.cells #[.int .i64 2, .int .i64 l, .int .i64 s, .slice A rs.length c] 93)))
    have HBX := Lib.hid (show ((w.alloc (.cells #[.int .i64 gb, .int .i64 gn, .int .i64 gc, .int .i64 gk] 44)).alloc (.cells #[.int .i64 2, .int .i64 l, .int .i64 s, .slice A rs.length c] 93)).heap[w.heap.size + 1]? = some (.cells #[.int .i64 2, .int .i64 l, .int .i64 s, .slice A rs.length c] 93 (0, 0)) by have h := heap_alloc_new (w.alloc (.cells #[.int .i64 gb, .int .i64 gn, .int .i64 gc, .int .i64 gk] 44)) (.cells #[.int .i64 2, .int .i64 l, .int .i64 s, .slice A rs.length c] 93); simpa using h)
    have HW := Lib.hid (((Below.refl w.heap.size w).alloc (Nat.le_refl _) (.cells #[.int .i64 gb, .int .i64 gn, .int .i64 gc, .int .i64 gk] 44)).alloc (by simp) (.cells #[.int .i64 2, .int .i64 l, .int .i64 s, .slice A rs.length c] 93))
    have HIL2 := Lib.hid (show ls = il by rw [HIL.out]; rfl)
    clear HIL
    by_cases p0 : l < 1
    · have HR := Lib.hid (HNC.out (fun h => by have := HC.out.1 h; omega))
      clear HNC HC HFORM HIFF HBAD HNX HSM KIL KAP KBL KND KD HIL2
      obtain ⟨i0, i1, i2, i3⟩ := cells4 HGX.out
      obtain ⟨c0, c1, c2, c3⟩ := cells4 HBX.out
      go_enter Try.func57, Try.ntmps57
      simp only [List.append_eq, List.nil_append, List.cons_append]
      go_wp2_with fail
      refine (KG.out _).mono ?_
      rintro e w1 ⟨rfl, hb⟩
      have HW := Lib.hid (HW.out.trans (hb.mono HW.out.size))
      have HGX := Lib.hid (heap_below HGX.out hb)
      have HBX := Lib.hid (heap_below HBX.out hb)
      clear hb
      clear i0 i1 i2 i3 c0 c1 c2 c3
      obtain ⟨i0, i1, i2, i3⟩ := cells4 HGX.out
      obtain ⟨c0, c1, c2, c3⟩ := cells4 HBX.out
      go_wp2
      go_ret
      exact ⟨ret_bool HR.out, HW.out⟩
    by_cases p1 : 200 < l
    · have HR := Lib.hid (HNC.out (fun h => by have := HC.out.1 h; omega))
      clear HNC HC HFORM HIFF HBAD HNX HSM KIL KAP KBL KND KD HIL2
      obtain ⟨i0, i1, i2, i3⟩ := cells4 HGX.out
      obtain ⟨c0, c1, c2, c3⟩ := cells4 HBX.out
      go_enter Try.func57, Try.ntmps57
      simp only [List.append_eq, List.nil_append, List.cons_append]
      go_wp2_with fail
      refine (KG.out _).mono ?_
      rintro e w1 ⟨rfl, hb⟩
      have HW := Lib.hid (HW.out.trans (hb.mono HW.out.size))
      have HGX := Lib.hid (heap_below HGX.out hb)
      have HBX := Lib.hid (heap_below HBX.out hb)
      clear hb
      clear i0 i1 i2 i3 c0 c1 c2 c3
      obtain ⟨i0, i1, i2, i3⟩ := cells4 HGX.out
      obtain ⟨c0, c1, c2, c3⟩ := cells4 HBX.out
      go_wp2
      go_ret
      exact ⟨ret_bool HR.out, HW.out⟩
    by_cases p2 : s < 0
    · have HR := Lib.hid (HNC.out (fun h => by have := HC.out.1 h; omega))
      clear HNC HC HFORM HIFF HBAD HNX HSM KIL KAP KBL KND KD HIL2
      obtain ⟨i0, i1, i2, i3⟩ := cells4 HGX.out
      obtain ⟨c0, c1, c2, c3⟩ := cells4 HBX.out
      go_enter Try.func57, Try.ntmps57
      simp only [List.append_eq, List.nil_append, List.cons_append]
      go_wp2_with fail
      refine (KG.out _).mono ?_
      rintro e w1 ⟨rfl, hb⟩
      have HW := Lib.hid (HW.out.trans (hb.mono HW.out.size))
      have HGX := Lib.hid (heap_below HGX.out hb)
      have HBX := Lib.hid (heap_below HBX.out hb)
      clear hb
      clear i0 i1 i2 i3 c0 c1 c2 c3
      obtain ⟨i0, i1, i2, i3⟩ := cells4 HGX.out
      obtain ⟨c0, c1, c2, c3⟩ := cells4 HBX.out
      go_wp2
      go_ret
      exact ⟨ret_bool HR.out, HW.out⟩
    by_cases p3 : gb < s
    · have HR := Lib.hid (HNC.out (fun h => by have := HC.out.1 h; omega))
      clear HNC HC HFORM HIFF HBAD HNX HSM KIL KAP KBL KND KD HIL2
      obtain ⟨i0, i1, i2, i3⟩ := cells4 HGX.out
      obtain ⟨c0, c1, c2, c3⟩ := cells4 HBX.out
      go_enter Try.func57, Try.ntmps57
      simp only [List.append_eq, List.nil_append, List.cons_append]
      go_wp2_with fail
      refine (KG.out _).mono ?_
      rintro e w1 ⟨rfl, hb⟩
      have HW := Lib.hid (HW.out.trans (hb.mono HW.out.size))
      have HGX := Lib.hid (heap_below HGX.out hb)
      have HBX := Lib.hid (heap_below HBX.out hb)
      clear hb
      clear i0 i1 i2 i3 c0 c1 c2 c3
      obtain ⟨i0, i1, i2, i3⟩ := cells4 HGX.out
      obtain ⟨c0, c1, c2, c3⟩ := cells4 HBX.out
      go_wp2
      go_ret
      exact ⟨ret_bool HR.out, HW.out⟩
    by_cases p4 : 4 < (rs.length : Int)
    · have HR := Lib.hid (HNC.out (fun h => by have := HC.out.1 h; omega))
      clear HNC HC HFORM HIFF HBAD HNX HSM KIL KAP KBL KND KD HIL2
      obtain ⟨i0, i1, i2, i3⟩ := cells4 HGX.out
      obtain ⟨c0, c1, c2, c3⟩ := cells4 HBX.out
      go_enter Try.func57, Try.ntmps57
      simp only [List.append_eq, List.nil_append, List.cons_append]
      go_wp2_with fail
      refine (KG.out _).mono ?_
      rintro e w1 ⟨rfl, hb⟩
      have HW := Lib.hid (HW.out.trans (hb.mono HW.out.size))
      have HGX := Lib.hid (heap_below HGX.out hb)
      have HBX := Lib.hid (heap_below HBX.out hb)
      clear hb
      clear i0 i1 i2 i3 c0 c1 c2 c3
      obtain ⟨i0, i1, i2, i3⟩ := cells4 HGX.out
      obtain ⟨c0, c1, c2, c3⟩ := cells4 HBX.out
      go_wp2
      go_ret
      exact ⟨ret_bool HR.out, HW.out⟩
    have HFORM := Lib.hid (HFORM.out (HC.out.2 (by omega)))
    clear HNC HC
    obtain ⟨i0, i1, i2, i3⟩ := cells4 HGX.out
    obtain ⟨c0, c1, c2, c3⟩ := cells4 HBX.out
    go_enter Try.func57, Try.ntmps57
    simp only [List.append_eq, List.nil_append, List.cons_append]
    go_wp2_with fail
    refine (KG.out _).mono ?_
    rintro e w1 ⟨rfl, hb⟩
    have HW := Lib.hid (HW.out.trans (hb.mono HW.out.size))
    have HGX := Lib.hid (heap_below HGX.out hb)
    have HBX := Lib.hid (heap_below HBX.out hb)
    clear hb
    clear i0 i1 i2 i3 c0 c1 c2 c3
    obtain ⟨i0, i1, i2, i3⟩ := cells4 HGX.out
    obtain ⟨c0, c1, c2, c3⟩ := cells4 HBX.out
    go_wp2_with fail
    refine (KD.out _).mono ?_
    rintro e w2 ⟨rfl, hb⟩
    have HW := Lib.hid (HW.out.trans (hb.mono HW.out.size))
    have HGX := Lib.hid (heap_below HGX.out hb)
    have HBX := Lib.hid (heap_below HBX.out hb)
    clear hb
    clear i0 i1 i2 i3 c0 c1 c2 c3
    obtain ⟨c0, c1, c2, c3⟩ := cells4 HBX.out
    go_wp2
    clear c0 c1 c2 c3 KG KD p0 p1 p2 p3 p4
    go_loopw [7] (fun i wr => ∃ k : Nat, k ≤ rs.length ∧ i = .int .i64 k ∧ Go.RowKit.Hid ((rs.take k).all okr = true) ∧ wr.heap[w.heap.size]? = some (.cells #[.int .i64 gb, .int .i64 gn, .int .i64 gc, .int .i64 gk] 44 (0, 0)) ∧ wr.heap[w.heap.size + 1]? = some (.cells #[.int .i64 2, .int .i64 l, .int .i64 s, .slice A rs.length c] 93 (0, 0)) ∧ Below w.heap.size w wr) (fun i _ => rs.length - (intOf i).toNat)
    case atStart => exact ⟨0, by omega, rfl, Lib.hid rfl, HGX.out, HBX.out, HW.out⟩
    case round =>
      obtain ⟨k, hk, rfl, hpt, hgx, hbx, hbw⟩ := hrel
      have HPT := Lib.hid hpt.out
      have HGR := Lib.hid hgx
      have HBX := Lib.hid hbx
      have HB := Lib.hid hbw
      clear hpt hbx hbw hgx HW
      obtain ⟨c0, c1, c2, c3⟩ := cells4 HBX.out
      by_cases hlt : k < rs.length
      · obtain ⟨lb, lo, rfl, hlc⟩ := (HL.out.below HB.out).at_ hlt
        obtain ⟨hk1, hk2⟩ := hlc k hlt
        have HBADK := Lib.hid (HBAD.out k hlt)
        have HNXK := Lib.hid (HNX.out k hlt HPT.out)
        clear hlc
        generalize hrk : rs[k] = zv at *
        clear hrk
        obtain ⟨z, v⟩ := zv
        simp only at hk1 hk2
        have HINZ := Lib.hid (HIFF.out (z, v))
        have e1 : IntKind.i64.wrap ((k : Int) + 1) = (k : Int) + 1 := IntWalk.i64_in _ (by omega)
        have HX1 := Lib.hid (heap_alloc_new wr (.cells #[.int .i64 z, .int .i64 v] 135))
        have hba : Below wr.heap.size wr (wr.alloc (.cells #[.int .i64 z, .int .i64 v] 135)) := (Below.refl _ _).alloc (Nat.le_refl _) _
        have HB1 := Lib.hid (HB.out.trans (hba.mono HB.out.size))
        have HBX1 := Lib.hid (heap_below HBX.out hba)
        have HGX1 := Lib.hid (heap_below HGR.out hba)
        clear hba
        obtain ⟨b0, b1, b2, b3⟩ := cells4 HBX1.out
        obtain ⟨d0, d1, d2, d3⟩ := cells4 HGX1.out
        obtain ⟨x0, x1⟩ := cells2 HX1.out
        by_cases q0 : v < 1
        · skip
          have HR := Lib.hid (show false = pb by
            rw [HFORM.out, HBADK.out (by rw [Bool.eq_false_iff]; intro h; have := HINZ.out.1 h; omega)]
            rfl)
          clear HINZ
          go_wp2
          go_ret
          exact ⟨ret_bool HR.out, HB1.out⟩
        by_cases q1 : z < 0
        · skip
          have HR := Lib.hid (show false = pb by
            rw [HFORM.out, HBADK.out (by rw [Bool.eq_false_iff]; intro h; have := HINZ.out.1 h; omega)]
            rfl)
          clear HINZ
          go_wp2
          go_ret
          exact ⟨ret_bool HR.out, HB1.out⟩
        by_cases q2 : 1024 < z
        · skip
          have HR := Lib.hid (show false = pb by
            rw [HFORM.out, HBADK.out (by rw [Bool.eq_false_iff]; intro h; have := HINZ.out.1 h; omega)]
            rfl)
          clear HINZ
          go_wp2
          go_ret
          exact ⟨ret_bool HR.out, HB1.out⟩
        by_cases q3 : 1024 < v
        · skip
          have HR := Lib.hid (show false = pb by
            rw [HFORM.out, HBADK.out (by rw [Bool.eq_false_iff]; intro h; have := HINZ.out.1 h; omega)]
            rfl)
          clear HINZ
          go_wp2
          go_ret
          exact ⟨ret_bool HR.out, HB1.out⟩
        have e2 : IntKind.i64.wrap (z + v) = z + v := IntWalk.i64_in _ (by omega)
        have e3 : IntKind.i64.wrap (df + dn) = df + dn := IntWalk.i64_in _ (by omega)
        by_cases q5 : z < df
        · skip
          go_wp2_with fail
          refine (KIL.out _ (HL.out.below HB1.out)).mono ?_
          rintro e w7 ⟨rfl, hb⟩
          have HB1 := Lib.hid (HB1.out.trans (hb.mono HB1.out.size))
          have HBX1 := Lib.hid (heap_below HBX1.out hb)
          have HGX1 := Lib.hid (heap_below HGX1.out hb)
          clear hb b0 b1 b2 b3 d0 d1 d2 d3 x0 x1 c0 c1 c2 c3 hk1 hk2
          rw [HIL2.out]
          cases hil : il with
          | false =>
            have HR := Lib.hid (show false = pb by
              rw [HFORM.out, HBADK.out (by rw [Bool.eq_false_iff]; intro h; have := HINZ.out.1 h; rw [hil] at this; simp at this; omega)]
              rfl)
            clear hil HINZ
            go_wp2
            go_ret
            exact ⟨ret_bool HR.out, HB1.out⟩
          | true =>
            have HN2 := Lib.hid (HNXK.out (HINZ.out.2 ⟨by omega, .inr hil⟩))
            clear hil HINZ
            go_wp2
            go_roundw
            case rel => exact ⟨k + 1, by omega, by go_num, Lib.hid HN2.out, HGX1.out, HBX1.out, HB1.out⟩
            case measure => simp [intOf]; omega
        by_cases q6 : df + dn < z + v
        · skip
          go_wp2_with fail
          refine (KIL.out _ (HL.out.below HB1.out)).mono ?_
          rintro e w7 ⟨rfl, hb⟩
          have HB1 := Lib.hid (HB1.out.trans (hb.mono HB1.out.size))
          have HBX1 := Lib.hid (heap_below HBX1.out hb)
          have HGX1 := Lib.hid (heap_below HGX1.out hb)
          clear hb b0 b1 b2 b3 d0 d1 d2 d3 x0 x1 c0 c1 c2 c3 hk1 hk2
          rw [HIL2.out]
          cases hil : il with
          | false =>
            have HR := Lib.hid (show false = pb by
              rw [HFORM.out, HBADK.out (by rw [Bool.eq_false_iff]; intro h; have := HINZ.out.1 h; rw [hil] at this; simp at this; omega)]
              rfl)
            clear hil HINZ
            go_wp2
            go_ret
            exact ⟨ret_bool HR.out, HB1.out⟩
          | true =>
            have HN2 := Lib.hid (HNXK.out (HINZ.out.2 ⟨by omega, .inr hil⟩))
            clear hil HINZ
            go_wp2
            go_roundw
            case rel => exact ⟨k + 1, by omega, by go_num, Lib.hid HN2.out, HGX1.out, HBX1.out, HB1.out⟩
            case measure => simp [intOf]; omega
        have HN2 := Lib.hid (HNXK.out (HINZ.out.2 ⟨by omega, .inl (by omega)⟩))
        clear HINZ
        go_wp2
        go_roundw
        case rel => exact ⟨k + 1, by omega, by go_num, Lib.hid HN2.out, HGX1.out, HBX1.out, HB1.out⟩
        case measure => simp [intOf]; omega
      · obtain rfl : k = rs.length := by omega
        rw [List.take_length] at HPT
        have HS2 := Lib.hid (HSM.out HPT.out)
        have HFORM := Lib.hid (show pb = (ap && (sm == nd)) by rw [HFORM.out, HPT.out]; rfl)
        have HLR := Lib.hid (HL.out.below HB.out)
        clear HBAD HNX HIFF HPT HSM KIL HIL2 hlt hk
        cases ap with
        | false =>
          have HR := Lib.hid (show false = pb by rw [HFORM.out]; rfl)
          clear HFORM
          go_wp2_with fail
          clear c0 c1 c2 c3
          apply wp_region_inv' 155 (Eqs _ :: Eqs _ :: Eqs _ :: Eqs _ :: Eqs _ :: Eqs _ :: Eqs _ :: Eqs _ :: Eqs _ :: Eqs _ :: Eqs _ :: []) (by kernel_rfl) (by rfl) (stab_cons (stab_eq _) (stab_cons (stab_eq _) (stab_cons (stab_eq _) (stab_cons (stab_eq _) (stab_cons (stab_eq _) (stab_cons (stab_eq _) (stab_cons (stab_eq _) (stab_cons (stab_eq _) (stab_cons (stab_eq _) (stab_cons (stab_eq _) (stab_cons (stab_eq _) stab_nil))))))))))) (by kernel_rfl) (by kernel_rfl)
          case hstep =>
            refine StepsOK.cons ?_ ?_
            · -- 0: Go.Op.fieldAddr 93 (Go.Operand.tmp 3) 3
              intro a w1 hR1 hF hU hsz
              have e3 : a.eval (.tmp 3) = _ := hU 3 (by kernel_rfl)
              rw [if_pos (by rfl)]
              intro K hK
              clear hF hU hsz
              obtain ⟨q1, q2, q3⟩ := eval_rest a
              generalize hρ : a.eval = ρ
              rw [hρ] at q1 q2 q3 e3
              clear hρ
              have u1 := OpUp_value Try.prog K
              have u2 := OpUp_enter Try.prog K
              go_simp
              exact hK _ _ (Stood.refl _) rfl
            refine StepsOK.cons ?_ ?_
            · -- 1: Go.Op.load 91 (Go.Operand.tmp 145)
              intro a w1 hR1 hF hU hsz
              have e145 : a.eval (.tmp 145) = _ := hF 0 _ _ rfl rfl (by kernel_rfl)
              rw [if_pos (by rfl)]
              intro K hK
              clear hF hU hsz
              obtain ⟨i0_, i1_, i2_, i3_⟩ := cells4 (heap_below HBX.out (Stood.cur hR1))
              obtain ⟨q1, q2, q3⟩ := eval_rest a
              generalize hρ : a.eval = ρ
              rw [hρ] at q1 q2 q3 e145
              clear hρ
              have u1 := OpUp_value Try.prog K
              have u2 := OpUp_enter Try.prog K
              go_simp
              exact hK _ _ (Stood.refl _) rfl
            refine StepsOK.cons ?_ ?_
            · -- 2: Go.Op.call { callee := Go.Callee.value (Go.Operand.func 95), args := #[Go.Operan
              intro a w1 hR1 hF hU hsz
              have e146 : a.eval (.tmp 146) = _ := hF 1 _ _ rfl rfl (by kernel_rfl)
              rw [if_pos (by rfl)]
              intro K hK
              clear hF hU hsz
              obtain ⟨q1, q2, q3⟩ := eval_rest a
              generalize hρ : a.eval = ρ
              rw [hρ] at q1 q2 q3 e146
              clear hρ
              have u1 := OpUp_value Try.prog K
              have u2 := OpUp_enter Try.prog K
              go_simp
              refine (KAP.out w1 (HLR.out.below (Stood.cur hR1)) HS2.out).mono ?_
              rintro e w' ⟨rfl, hd⟩
              exact ⟨_, rfl, hK _ _ (hd.below _) rfl⟩
            refine StepsOK.cons ?_ ?_
            · -- 3: Go.Op.move (Go.Operand.tmp 147)
              intro a w1 hR1 hF hU hsz
              have e147 : a.eval (.tmp 147) = _ := hF 2 _ _ rfl rfl (by kernel_rfl)
              rw [if_pos (by rfl)]
              intro K hK
              clear hF hU hsz
              obtain ⟨q1, q2, q3⟩ := eval_rest a
              generalize hρ : a.eval = ρ
              rw [hρ] at q1 q2 q3 e147
              clear hρ
              have u1 := OpUp_value Try.prog K
              have u2 := OpUp_enter Try.prog K
              go_simp
              exact hK _ _ (Stood.refl _) rfl
            refine StepsOK.cons ?_ ?_
            · -- 4: Go.Op.load 93 (Go.Operand.tmp 3)
              intro a w1 hR1 hF hU hsz
              have e3 : a.eval (.tmp 3) = _ := hU 3 (by kernel_rfl)
              have e148 : a.eval (.tmp 148) = _ := hF 3 _ _ rfl rfl (by kernel_rfl)
              rw [wanted_guard (ops := _) rfl rfl rfl e148, if_neg (by decide)]
            refine StepsOK.cons ?_ ?_
            · -- 5: Go.Op.call { callee := Go.Callee.value (Go.Operand.func 62), args := #[Go.Operan
              intro a w1 hR1 hF hU hsz
              have e149 : a.eval (.tmp 149) = _ := hF 4 _ _ rfl rfl (by kernel_rfl)
              have e148 : a.eval (.tmp 148) = _ := hF 3 _ _ rfl rfl (by kernel_rfl)
              rw [wanted_guard (ops := _) rfl rfl rfl e148, if_neg (by decide)]
            refine StepsOK.cons ?_ ?_
            · -- 6: Go.Op.load 93 (Go.Operand.tmp 3)
              intro a w1 hR1 hF hU hsz
              have e3 : a.eval (.tmp 3) = _ := hU 3 (by kernel_rfl)
              have e148 : a.eval (.tmp 148) = _ := hF 3 _ _ rfl rfl (by kernel_rfl)
              rw [wanted_guard (ops := _) rfl rfl rfl e148, if_neg (by decide)]
            refine StepsOK.cons ?_ ?_
            · -- 7: Go.Op.call { callee := Go.Callee.value (Go.Operand.func 63), args := #[Go.Operan
              intro a w1 hR1 hF hU hsz
              have e151 : a.eval (.tmp 151) = _ := hF 6 _ _ rfl rfl (by kernel_rfl)
              have e148 : a.eval (.tmp 148) = _ := hF 3 _ _ rfl rfl (by kernel_rfl)
              rw [wanted_guard (ops := _) rfl rfl rfl e148, if_neg (by decide)]
            refine StepsOK.cons ?_ ?_
            · -- 8: Go.Op.binOp Go.BinOp.eql 3 (Go.Operand.tmp 150) (Go.Operand.tmp 152) 3
              intro a w1 hR1 hF hU hsz
              have e150 : a.eval (.tmp 150) = _ := hF 5 _ _ rfl rfl (by kernel_rfl)
              have e152 : a.eval (.tmp 152) = _ := hF 7 _ _ rfl rfl (by kernel_rfl)
              have e148 : a.eval (.tmp 148) = _ := hF 3 _ _ rfl rfl (by kernel_rfl)
              rw [wanted_guard (ops := _) rfl rfl rfl e148, if_neg (by decide)]
            refine StepsOK.cons ?_ ?_
            · -- 9: Go.Op.pick (Go.Operand.tmp 148) (Go.Operand.tmp 153) (Go.Operand.const (Go.Value
              intro a w1 hR1 hF hU hsz
              have e148 : a.eval (.tmp 148) = _ := hF 3 _ _ rfl rfl (by kernel_rfl)
              have e153 : a.eval (.tmp 153) = _ := hF 8 _ _ rfl rfl (by kernel_rfl)
              rw [if_pos (by rfl)]
              intro K hK
              clear hF hU hsz
              obtain ⟨q1, q2, q3⟩ := eval_rest a
              generalize hρ : a.eval = ρ
              rw [hρ] at q1 q2 q3 e148 e153
              clear hρ
              have u1 := OpUp_value Try.prog K
              have u2 := OpUp_enter Try.prog K
              go_simp
              exact hK _ _ (Stood.refl _) rfl
            refine StepsOK.cons ?_ ?_
            · -- 10: Go.Op.assign (Go.Operand.tmp 154)
              intro a w1 hR1 hF hU hsz
              have e154 : a.eval (.tmp 154) = _ := hF 9 _ _ rfl rfl (by kernel_rfl)
              rw [if_pos (by rfl)]
              intro K hK
              clear hF hU hsz
              obtain ⟨q1, q2, q3⟩ := eval_rest a
              generalize hρ : a.eval = ρ
              rw [hρ] at q1 q2 q3 e154
              clear hρ
              have u1 := OpUp_value Try.prog K
              have u2 := OpUp_enter Try.prog K
              go_simp
              exact hK _ _ (Stood.refl _) rfl
            exact StepsOK.nil
          case hend =>
            intro vs0 w1 hR1 hH0
            obtain ⟨vs1, rfl, hH1⟩ := hH0.eq_
            obtain ⟨vs2, rfl, hH2⟩ := hH1.eq_
            obtain ⟨vs3, rfl, hH3⟩ := hH2.eq_
            obtain ⟨vs4, rfl, hH4⟩ := hH3.eq_
            obtain ⟨vs5, rfl, hH5⟩ := hH4.eq_
            obtain ⟨vs6, rfl, hH6⟩ := hH5.eq_
            obtain ⟨vs7, rfl, hH7⟩ := hH6.eq_
            obtain ⟨vs8, rfl, hH8⟩ := hH7.eq_
            obtain ⟨vs9, rfl, hH9⟩ := hH8.eq_
            obtain ⟨vs10, rfl, hH10⟩ := hH9.eq_
            obtain ⟨vs11, rfl, hH11⟩ := hH10.eq_
            obtain rfl := hH11.nil
            clear hH0 hH1 hH2 hH3 hH4 hH5 hH6 hH7 hH8 hH9 hH10 hH11
            simp only [putAll, Act.put, List.setIfInBounds_toArray, List.set_cons_zero, List.set_cons_succ]
            have HB := Lib.hid (HB.out.trans ((Stood.cur hR1).mono HB.out.size))
            go_wp2
            go_ret
            exact ⟨ret_bool HR.out, HB.out⟩
        | true =>
          have HR := Lib.hid (show (sm == nd) = pb by rw [HFORM.out]; rfl)
          clear HFORM
          go_wp2_with fail
          clear c0 c1 c2 c3
          apply wp_region_inv' 155 (Eqs _ :: Eqs _ :: Eqs _ :: Eqs _ :: Eqs _ :: Eqs _ :: Eqs _ :: Eqs _ :: Eqs _ :: Eqs _ :: Eqs _ :: []) (by kernel_rfl) (by rfl) (stab_cons (stab_eq _) (stab_cons (stab_eq _) (stab_cons (stab_eq _) (stab_cons (stab_eq _) (stab_cons (stab_eq _) (stab_cons (stab_eq _) (stab_cons (stab_eq _) (stab_cons (stab_eq _) (stab_cons (stab_eq _) (stab_cons (stab_eq _) (stab_cons (stab_eq _) stab_nil))))))))))) (by kernel_rfl) (by kernel_rfl)
          case hstep =>
            refine StepsOK.cons ?_ ?_
            · -- 0: Go.Op.fieldAddr 93 (Go.Operand.tmp 3) 3
              intro a w1 hR1 hF hU hsz
              have e3 : a.eval (.tmp 3) = _ := hU 3 (by kernel_rfl)
              rw [if_pos (by rfl)]
              intro K hK
              clear hF hU hsz
              obtain ⟨q1, q2, q3⟩ := eval_rest a
              generalize hρ : a.eval = ρ
              rw [hρ] at q1 q2 q3 e3
              clear hρ
              have u1 := OpUp_value Try.prog K
              have u2 := OpUp_enter Try.prog K
              go_simp
              exact hK _ _ (Stood.refl _) rfl
            refine StepsOK.cons ?_ ?_
            · -- 1: Go.Op.load 91 (Go.Operand.tmp 145)
              intro a w1 hR1 hF hU hsz
              have e145 : a.eval (.tmp 145) = _ := hF 0 _ _ rfl rfl (by kernel_rfl)
              rw [if_pos (by rfl)]
              intro K hK
              clear hF hU hsz
              obtain ⟨i0_, i1_, i2_, i3_⟩ := cells4 (heap_below HBX.out (Stood.cur hR1))
              obtain ⟨q1, q2, q3⟩ := eval_rest a
              generalize hρ : a.eval = ρ
              rw [hρ] at q1 q2 q3 e145
              clear hρ
              have u1 := OpUp_value Try.prog K
              have u2 := OpUp_enter Try.prog K
              go_simp
              exact hK _ _ (Stood.refl _) rfl
            refine StepsOK.cons ?_ ?_
            · -- 2: Go.Op.call { callee := Go.Callee.value (Go.Operand.func 95), args := #[Go.Operan
              intro a w1 hR1 hF hU hsz
              have e146 : a.eval (.tmp 146) = _ := hF 1 _ _ rfl rfl (by kernel_rfl)
              rw [if_pos (by rfl)]
              intro K hK
              clear hF hU hsz
              obtain ⟨q1, q2, q3⟩ := eval_rest a
              generalize hρ : a.eval = ρ
              rw [hρ] at q1 q2 q3 e146
              clear hρ
              have u1 := OpUp_value Try.prog K
              have u2 := OpUp_enter Try.prog K
              go_simp
              refine (KAP.out w1 (HLR.out.below (Stood.cur hR1)) HS2.out).mono ?_
              rintro e w' ⟨rfl, hd⟩
              exact ⟨_, rfl, hK _ _ (hd.below _) rfl⟩
            refine StepsOK.cons ?_ ?_
            · -- 3: Go.Op.move (Go.Operand.tmp 147)
              intro a w1 hR1 hF hU hsz
              have e147 : a.eval (.tmp 147) = _ := hF 2 _ _ rfl rfl (by kernel_rfl)
              rw [if_pos (by rfl)]
              intro K hK
              clear hF hU hsz
              obtain ⟨q1, q2, q3⟩ := eval_rest a
              generalize hρ : a.eval = ρ
              rw [hρ] at q1 q2 q3 e147
              clear hρ
              have u1 := OpUp_value Try.prog K
              have u2 := OpUp_enter Try.prog K
              go_simp
              exact hK _ _ (Stood.refl _) rfl
            refine StepsOK.cons ?_ ?_
            · -- 4: Go.Op.load 93 (Go.Operand.tmp 3)
              intro a w1 hR1 hF hU hsz
              have e3 : a.eval (.tmp 3) = _ := hU 3 (by kernel_rfl)
              have e148 : a.eval (.tmp 148) = _ := hF 3 _ _ rfl rfl (by kernel_rfl)
              rw [wanted_guard (ops := _) rfl rfl rfl e148, if_pos (by rfl)]
              intro K hK
              clear hF hU hsz
              obtain ⟨i0_, i1_, i2_, i3_⟩ := cells4 (heap_below HBX.out (Stood.cur hR1))
              obtain ⟨q1, q2, q3⟩ := eval_rest a
              generalize hρ : a.eval = ρ
              rw [hρ] at q1 q2 q3 e3 e148
              clear hρ
              have u1 := OpUp_value Try.prog K
              have u2 := OpUp_enter Try.prog K
              go_simp
              exact hK _ _ (Stood.refl _) rfl
            refine StepsOK.cons ?_ ?_
            · -- 5: Go.Op.call { callee := Go.Callee.value (Go.Operand.func 62), args := #[Go.Operan
              intro a w1 hR1 hF hU hsz
              have e149 : a.eval (.tmp 149) = _ := hF 4 _ _ rfl rfl (by kernel_rfl)
              have e148 : a.eval (.tmp 148) = _ := hF 3 _ _ rfl rfl (by kernel_rfl)
              rw [wanted_guard (ops := _) rfl rfl rfl e148, if_pos (by rfl)]
              intro K hK
              clear hF hU hsz
              obtain ⟨q1, q2, q3⟩ := eval_rest a
              generalize hρ : a.eval = ρ
              rw [hρ] at q1 q2 q3 e148 e149
              clear hρ
              have u1 := OpUp_value Try.prog K
              have u2 := OpUp_enter Try.prog K
              go_simp
              refine (KBL.out w1 (HLR.out.below (Stood.cur hR1))).mono ?_
              rintro e w' ⟨rfl, hb⟩
              exact ⟨_, rfl, hK _ _ hb rfl⟩
            refine StepsOK.cons ?_ ?_
            · -- 6: Go.Op.load 93 (Go.Operand.tmp 3)
              intro a w1 hR1 hF hU hsz
              have e3 : a.eval (.tmp 3) = _ := hU 3 (by kernel_rfl)
              have e148 : a.eval (.tmp 148) = _ := hF 3 _ _ rfl rfl (by kernel_rfl)
              rw [wanted_guard (ops := _) rfl rfl rfl e148, if_pos (by rfl)]
              intro K hK
              clear hF hU hsz
              obtain ⟨i0_, i1_, i2_, i3_⟩ := cells4 (heap_below HBX.out (Stood.cur hR1))
              obtain ⟨q1, q2, q3⟩ := eval_rest a
              generalize hρ : a.eval = ρ
              rw [hρ] at q1 q2 q3 e3 e148
              clear hρ
              have u1 := OpUp_value Try.prog K
              have u2 := OpUp_enter Try.prog K
              go_simp
              exact hK _ _ (Stood.refl _) rfl
            refine StepsOK.cons ?_ ?_
            · -- 7: Go.Op.call { callee := Go.Callee.value (Go.Operand.func 63), args := #[Go.Operan
              intro a w1 hR1 hF hU hsz
              have e151 : a.eval (.tmp 151) = _ := hF 6 _ _ rfl rfl (by kernel_rfl)
              have e148 : a.eval (.tmp 148) = _ := hF 3 _ _ rfl rfl (by kernel_rfl)
              rw [wanted_guard (ops := _) rfl rfl rfl e148, if_pos (by rfl)]
              intro K hK
              clear hF hU hsz
              obtain ⟨q1, q2, q3⟩ := eval_rest a
              generalize hρ : a.eval = ρ
              rw [hρ] at q1 q2 q3 e148 e151
              clear hρ
              have u1 := OpUp_value Try.prog K
              have u2 := OpUp_enter Try.prog K
              go_simp
              refine (KND.out w1).mono ?_
              rintro e w' ⟨rfl, hb⟩
              exact ⟨_, rfl, hK _ _ hb rfl⟩
            refine StepsOK.cons ?_ ?_
            · -- 8: Go.Op.binOp Go.BinOp.eql 3 (Go.Operand.tmp 150) (Go.Operand.tmp 152) 3
              intro a w1 hR1 hF hU hsz
              have e150 : a.eval (.tmp 150) = _ := hF 5 _ _ rfl rfl (by kernel_rfl)
              have e152 : a.eval (.tmp 152) = _ := hF 7 _ _ rfl rfl (by kernel_rfl)
              have e148 : a.eval (.tmp 148) = _ := hF 3 _ _ rfl rfl (by kernel_rfl)
              rw [wanted_guard (ops := _) rfl rfl rfl e148, if_pos (by rfl)]
              intro K hK
              clear hF hU hsz
              obtain ⟨q1, q2, q3⟩ := eval_rest a
              generalize hρ : a.eval = ρ
              rw [hρ] at q1 q2 q3 e148 e150 e152
              clear hρ
              have u1 := OpUp_value Try.prog K
              have u2 := OpUp_enter Try.prog K
              go_simp
              exact hK _ _ (Stood.refl _) rfl
            refine StepsOK.cons ?_ ?_
            · -- 9: Go.Op.pick (Go.Operand.tmp 148) (Go.Operand.tmp 153) (Go.Operand.const (Go.Value
              intro a w1 hR1 hF hU hsz
              have e148 : a.eval (.tmp 148) = _ := hF 3 _ _ rfl rfl (by kernel_rfl)
              have e153 : a.eval (.tmp 153) = _ := hF 8 _ _ rfl rfl (by kernel_rfl)
              rw [if_pos (by rfl)]
              intro K hK
              clear hF hU hsz
              obtain ⟨q1, q2, q3⟩ := eval_rest a
              generalize hρ : a.eval = ρ
              rw [hρ] at q1 q2 q3 e148 e153
              clear hρ
              have u1 := OpUp_value Try.prog K
              have u2 := OpUp_enter Try.prog K
              go_simp
              exact hK _ _ (Stood.refl _) rfl
            refine StepsOK.cons ?_ ?_
            · -- 10: Go.Op.assign (Go.Operand.tmp 154)
              intro a w1 hR1 hF hU hsz
              have e154 : a.eval (.tmp 154) = _ := hF 9 _ _ rfl rfl (by kernel_rfl)
              rw [if_pos (by rfl)]
              intro K hK
              clear hF hU hsz
              obtain ⟨q1, q2, q3⟩ := eval_rest a
              generalize hρ : a.eval = ρ
              rw [hρ] at q1 q2 q3 e154
              clear hρ
              have u1 := OpUp_value Try.prog K
              have u2 := OpUp_enter Try.prog K
              go_simp
              exact hK _ _ (Stood.refl _) rfl
            exact StepsOK.nil
          case hend =>
            intro vs0 w1 hR1 hH0
            obtain ⟨vs1, rfl, hH1⟩ := hH0.eq_
            obtain ⟨vs2, rfl, hH2⟩ := hH1.eq_
            obtain ⟨vs3, rfl, hH3⟩ := hH2.eq_
            obtain ⟨vs4, rfl, hH4⟩ := hH3.eq_
            obtain ⟨vs5, rfl, hH5⟩ := hH4.eq_
            obtain ⟨vs6, rfl, hH6⟩ := hH5.eq_
            obtain ⟨vs7, rfl, hH7⟩ := hH6.eq_
            obtain ⟨vs8, rfl, hH8⟩ := hH7.eq_
            obtain ⟨vs9, rfl, hH9⟩ := hH8.eq_
            obtain ⟨vs10, rfl, hH10⟩ := hH9.eq_
            obtain ⟨vs11, rfl, hH11⟩ := hH10.eq_
            obtain rfl := hH11.nil
            clear hH0 hH1 hH2 hH3 hH4 hH5 hH6 hH7 hH8 hH9 hH10 hH11
            simp only [putAll, Act.put, List.setIfInBounds_toArray, List.set_cons_zero, List.set_cons_succ]
            have HB := Lib.hid (HB.out.trans ((Stood.cur hR1).mono HB.out.size))
            go_wp2
            go_ret
            exact ⟨ret_bool HR.out, HB.out⟩
  · skip
    have HC := Lib.hid (cn3 (g := g) (l := l) (s := s) (rs := rs))
    have HNC := Lib.hid (HNC.out (by decide))
    clear ht hf
    generalize CN g ⟨3, l, s⟩ rs = cn at *
    generalize goodN g ⟨3, l, s⟩ rs = pb at *
    generalize isLost g ⟨3, l, s⟩ rs = il at *
    generalize okR g il = okr at *
    generalize apTo rs rs.length = ap at *
    generalize sumR rs = sm at *
    generalize needsN ⟨3, l, s⟩ = nd at *
    generalize g.df = df at *
    generalize g.dn = dn at *
    generalize (rs == [(g.lf, g.n)]) = ls at *
    clear hg
    obtain ⟨gb, gn, gc, gk⟩ := g
    unfold nodeV at *
    simp only [Geo.v] at *
    have HGX := Lib.hid (heap_below (heap_alloc_new w (.cells #[.int .i64 gb, .int .i64 gn, .int .i64 gc, .int .i64 gk] 44)) ((Below.refl _ _).alloc (Nat.le_refl _) (.cells #[.int .i64 3, .int .i64 l, .int .i64 s, .slice A rs.length c] 93)))
    have HBX := Lib.hid (show ((w.alloc (.cells #[.int .i64 gb, .int .i64 gn, .int .i64 gc, .int .i64 gk] 44)).alloc (.cells #[.int .i64 3, .int .i64 l, .int .i64 s, .slice A rs.length c] 93)).heap[w.heap.size + 1]? = some (.cells #[.int .i64 3, .int .i64 l, .int .i64 s, .slice A rs.length c] 93 (0, 0)) by have h := heap_alloc_new (w.alloc (.cells #[.int .i64 gb, .int .i64 gn, .int .i64 gc, .int .i64 gk] 44)) (.cells #[.int .i64 3, .int .i64 l, .int .i64 s, .slice A rs.length c] 93); simpa using h)
    have HW := Lib.hid (((Below.refl w.heap.size w).alloc (Nat.le_refl _) (.cells #[.int .i64 gb, .int .i64 gn, .int .i64 gc, .int .i64 gk] 44)).alloc (by simp) (.cells #[.int .i64 3, .int .i64 l, .int .i64 s, .slice A rs.length c] 93))
    have HIL2 := Lib.hid (show il = false by rw [HIL.out]; rfl)
    clear HIL
    by_cases p0 : l < 1
    · have HR := Lib.hid (HNC.out (fun h => by have := HC.out.1 h; omega))
      clear HNC HC HFORM HIFF HBAD HNX HSM KIL KAP KBL KND KD HIL2
      obtain ⟨i0, i1, i2, i3⟩ := cells4 HGX.out
      obtain ⟨c0, c1, c2, c3⟩ := cells4 HBX.out
      go_enter Try.func57, Try.ntmps57
      simp only [List.append_eq, List.nil_append, List.cons_append]
      go_wp2_with fail
      refine (KG.out _).mono ?_
      rintro e w1 ⟨rfl, hb⟩
      have HW := Lib.hid (HW.out.trans (hb.mono HW.out.size))
      have HGX := Lib.hid (heap_below HGX.out hb)
      have HBX := Lib.hid (heap_below HBX.out hb)
      clear hb
      clear i0 i1 i2 i3 c0 c1 c2 c3
      obtain ⟨i0, i1, i2, i3⟩ := cells4 HGX.out
      obtain ⟨c0, c1, c2, c3⟩ := cells4 HBX.out
      go_wp2
      go_ret
      exact ⟨ret_bool HR.out, HW.out⟩
    by_cases p1 : 200 < l
    · have HR := Lib.hid (HNC.out (fun h => by have := HC.out.1 h; omega))
      clear HNC HC HFORM HIFF HBAD HNX HSM KIL KAP KBL KND KD HIL2
      obtain ⟨i0, i1, i2, i3⟩ := cells4 HGX.out
      obtain ⟨c0, c1, c2, c3⟩ := cells4 HBX.out
      go_enter Try.func57, Try.ntmps57
      simp only [List.append_eq, List.nil_append, List.cons_append]
      go_wp2_with fail
      refine (KG.out _).mono ?_
      rintro e w1 ⟨rfl, hb⟩
      have HW := Lib.hid (HW.out.trans (hb.mono HW.out.size))
      have HGX := Lib.hid (heap_below HGX.out hb)
      have HBX := Lib.hid (heap_below HBX.out hb)
      clear hb
      clear i0 i1 i2 i3 c0 c1 c2 c3
      obtain ⟨i0, i1, i2, i3⟩ := cells4 HGX.out
      obtain ⟨c0, c1, c2, c3⟩ := cells4 HBX.out
      go_wp2
      go_ret
      exact ⟨ret_bool HR.out, HW.out⟩
    by_cases p2 : s < 0
    · have HR := Lib.hid (HNC.out (fun h => by have := HC.out.1 h; omega))
      clear HNC HC HFORM HIFF HBAD HNX HSM KIL KAP KBL KND KD HIL2
      obtain ⟨i0, i1, i2, i3⟩ := cells4 HGX.out
      obtain ⟨c0, c1, c2, c3⟩ := cells4 HBX.out
      go_enter Try.func57, Try.ntmps57
      simp only [List.append_eq, List.nil_append, List.cons_append]
      go_wp2_with fail
      refine (KG.out _).mono ?_
      rintro e w1 ⟨rfl, hb⟩
      have HW := Lib.hid (HW.out.trans (hb.mono HW.out.size))
      have HGX := Lib.hid (heap_below HGX.out hb)
      have HBX := Lib.hid (heap_below HBX.out hb)
      clear hb
      clear i0 i1 i2 i3 c0 c1 c2 c3
      obtain ⟨i0, i1, i2, i3⟩ := cells4 HGX.out
      obtain ⟨c0, c1, c2, c3⟩ := cells4 HBX.out
      go_wp2
      go_ret
      exact ⟨ret_bool HR.out, HW.out⟩
    by_cases p3 : 4096 < s
    · have HR := Lib.hid (HNC.out (fun h => by have := HC.out.1 h; omega))
      clear HNC HC HFORM HIFF HBAD HNX HSM KIL KAP KBL KND KD HIL2
      obtain ⟨i0, i1, i2, i3⟩ := cells4 HGX.out
      obtain ⟨c0, c1, c2, c3⟩ := cells4 HBX.out
      go_enter Try.func57, Try.ntmps57
      simp only [List.append_eq, List.nil_append, List.cons_append]
      go_wp2_with fail
      refine (KG.out _).mono ?_
      rintro e w1 ⟨rfl, hb⟩
      have HW := Lib.hid (HW.out.trans (hb.mono HW.out.size))
      have HGX := Lib.hid (heap_below HGX.out hb)
      have HBX := Lib.hid (heap_below HBX.out hb)
      clear hb
      clear i0 i1 i2 i3 c0 c1 c2 c3
      obtain ⟨i0, i1, i2, i3⟩ := cells4 HGX.out
      obtain ⟨c0, c1, c2, c3⟩ := cells4 HBX.out
      go_wp2
      go_ret
      exact ⟨ret_bool HR.out, HW.out⟩
    by_cases p4 : s < 1
    · have HR := Lib.hid (HNC.out (fun h => by have := HC.out.1 h; omega))
      clear HNC HC HFORM HIFF HBAD HNX HSM KIL KAP KBL KND KD HIL2
      obtain ⟨i0, i1, i2, i3⟩ := cells4 HGX.out
      obtain ⟨c0, c1, c2, c3⟩ := cells4 HBX.out
      go_enter Try.func57, Try.ntmps57
      simp only [List.append_eq, List.nil_append, List.cons_append]
      go_wp2_with fail
      refine (KG.out _).mono ?_
      rintro e w1 ⟨rfl, hb⟩
      have HW := Lib.hid (HW.out.trans (hb.mono HW.out.size))
      have HGX := Lib.hid (heap_below HGX.out hb)
      have HBX := Lib.hid (heap_below HBX.out hb)
      clear hb
      clear i0 i1 i2 i3 c0 c1 c2 c3
      obtain ⟨i0, i1, i2, i3⟩ := cells4 HGX.out
      obtain ⟨c0, c1, c2, c3⟩ := cells4 HBX.out
      go_wp2
      go_ret
      exact ⟨ret_bool HR.out, HW.out⟩
    by_cases p5 : 400 < s
    · have HR := Lib.hid (HNC.out (fun h => by have := HC.out.1 h; omega))
      clear HNC HC HFORM HIFF HBAD HNX HSM KIL KAP KBL KND KD HIL2
      obtain ⟨i0, i1, i2, i3⟩ := cells4 HGX.out
      obtain ⟨c0, c1, c2, c3⟩ := cells4 HBX.out
      go_enter Try.func57, Try.ntmps57
      simp only [List.append_eq, List.nil_append, List.cons_append]
      go_wp2_with fail
      refine (KG.out _).mono ?_
      rintro e w1 ⟨rfl, hb⟩
      have HW := Lib.hid (HW.out.trans (hb.mono HW.out.size))
      have HGX := Lib.hid (heap_below HGX.out hb)
      have HBX := Lib.hid (heap_below HBX.out hb)
      clear hb
      clear i0 i1 i2 i3 c0 c1 c2 c3
      obtain ⟨i0, i1, i2, i3⟩ := cells4 HGX.out
      obtain ⟨c0, c1, c2, c3⟩ := cells4 HBX.out
      go_wp2
      go_ret
      exact ⟨ret_bool HR.out, HW.out⟩
    by_cases p6 : 4 < (rs.length : Int)
    · have HR := Lib.hid (HNC.out (fun h => by have := HC.out.1 h; omega))
      clear HNC HC HFORM HIFF HBAD HNX HSM KIL KAP KBL KND KD HIL2
      obtain ⟨i0, i1, i2, i3⟩ := cells4 HGX.out
      obtain ⟨c0, c1, c2, c3⟩ := cells4 HBX.out
      go_enter Try.func57, Try.ntmps57
      simp only [List.append_eq, List.nil_append, List.cons_append]
      go_wp2_with fail
      refine (KG.out _).mono ?_
      rintro e w1 ⟨rfl, hb⟩
      have HW := Lib.hid (HW.out.trans (hb.mono HW.out.size))
      have HGX := Lib.hid (heap_below HGX.out hb)
      have HBX := Lib.hid (heap_below HBX.out hb)
      clear hb
      clear i0 i1 i2 i3 c0 c1 c2 c3
      obtain ⟨i0, i1, i2, i3⟩ := cells4 HGX.out
      obtain ⟨c0, c1, c2, c3⟩ := cells4 HBX.out
      go_wp2
      go_ret
      exact ⟨ret_bool HR.out, HW.out⟩
    have HFORM := Lib.hid (HFORM.out (HC.out.2 (by omega)))
    clear HNC HC
    obtain ⟨i0, i1, i2, i3⟩ := cells4 HGX.out
    obtain ⟨c0, c1, c2, c3⟩ := cells4 HBX.out
    go_enter Try.func57, Try.ntmps57
    simp only [List.append_eq, List.nil_append, List.cons_append]
    go_wp2_with fail
    refine (KG.out _).mono ?_
    rintro e w1 ⟨rfl, hb⟩
    have HW := Lib.hid (HW.out.trans (hb.mono HW.out.size))
    have HGX := Lib.hid (heap_below HGX.out hb)
    have HBX := Lib.hid (heap_below HBX.out hb)
    clear hb
    clear i0 i1 i2 i3 c0 c1 c2 c3
    obtain ⟨i0, i1, i2, i3⟩ := cells4 HGX.out
    obtain ⟨c0, c1, c2, c3⟩ := cells4 HBX.out
    go_wp2_with fail
    refine (KD.out _).mono ?_
    rintro e w2 ⟨rfl, hb⟩
    have HW := Lib.hid (HW.out.trans (hb.mono HW.out.size))
    have HGX := Lib.hid (heap_below HGX.out hb)
    have HBX := Lib.hid (heap_below HBX.out hb)
    clear hb
    clear i0 i1 i2 i3 c0 c1 c2 c3
    obtain ⟨c0, c1, c2, c3⟩ := cells4 HBX.out
    go_wp2
    clear c0 c1 c2 c3 KG KD p0 p1 p2 p3 p4 p5 p6
    go_loopw [7] (fun i wr => ∃ k : Nat, k ≤ rs.length ∧ i = .int .i64 k ∧ Go.RowKit.Hid ((rs.take k).all okr = true) ∧ wr.heap[w.heap.size]? = some (.cells #[.int .i64 gb, .int .i64 gn, .int .i64 gc, .int .i64 gk] 44 (0, 0)) ∧ wr.heap[w.heap.size + 1]? = some (.cells #[.int .i64 3, .int .i64 l, .int .i64 s, .slice A rs.length c] 93 (0, 0)) ∧ Below w.heap.size w wr) (fun i _ => rs.length - (intOf i).toNat)
    case atStart => exact ⟨0, by omega, rfl, Lib.hid rfl, HGX.out, HBX.out, HW.out⟩
    case round =>
      obtain ⟨k, hk, rfl, hpt, hgx, hbx, hbw⟩ := hrel
      have HPT := Lib.hid hpt.out
      have HGR := Lib.hid hgx
      have HBX := Lib.hid hbx
      have HB := Lib.hid hbw
      clear hpt hbx hbw hgx HW
      obtain ⟨c0, c1, c2, c3⟩ := cells4 HBX.out
      by_cases hlt : k < rs.length
      · obtain ⟨lb, lo, rfl, hlc⟩ := (HL.out.below HB.out).at_ hlt
        obtain ⟨hk1, hk2⟩ := hlc k hlt
        have HBADK := Lib.hid (HBAD.out k hlt)
        have HNXK := Lib.hid (HNX.out k hlt HPT.out)
        clear hlc
        generalize hrk : rs[k] = zv at *
        clear hrk
        obtain ⟨z, v⟩ := zv
        simp only at hk1 hk2
        have HINZ := Lib.hid (HIFF.out (z, v))
        have e1 : IntKind.i64.wrap ((k : Int) + 1) = (k : Int) + 1 := IntWalk.i64_in _ (by omega)
        have HX1 := Lib.hid (heap_alloc_new wr (.cells #[.int .i64 z, .int .i64 v] 135))
        have hba : Below wr.heap.size wr (wr.alloc (.cells #[.int .i64 z, .int .i64 v] 135)) := (Below.refl _ _).alloc (Nat.le_refl _) _
        have HB1 := Lib.hid (HB.out.trans (hba.mono HB.out.size))
        have HBX1 := Lib.hid (heap_below HBX.out hba)
        have HGX1 := Lib.hid (heap_below HGR.out hba)
        clear hba
        obtain ⟨b0, b1, b2, b3⟩ := cells4 HBX1.out
        obtain ⟨d0, d1, d2, d3⟩ := cells4 HGX1.out
        obtain ⟨x0, x1⟩ := cells2 HX1.out
        by_cases q0 : v < 1
        · skip
          have HR := Lib.hid (show false = pb by
            rw [HFORM.out, HBADK.out (by rw [Bool.eq_false_iff]; intro h; have := HINZ.out.1 h; omega)]
            rfl)
          clear HINZ
          go_wp2
          go_ret
          exact ⟨ret_bool HR.out, HB1.out⟩
        by_cases q1 : z < 0
        · skip
          have HR := Lib.hid (show false = pb by
            rw [HFORM.out, HBADK.out (by rw [Bool.eq_false_iff]; intro h; have := HINZ.out.1 h; omega)]
            rfl)
          clear HINZ
          go_wp2
          go_ret
          exact ⟨ret_bool HR.out, HB1.out⟩
        by_cases q2 : 1024 < z
        · skip
          have HR := Lib.hid (show false = pb by
            rw [HFORM.out, HBADK.out (by rw [Bool.eq_false_iff]; intro h; have := HINZ.out.1 h; omega)]
            rfl)
          clear HINZ
          go_wp2
          go_ret
          exact ⟨ret_bool HR.out, HB1.out⟩
        by_cases q3 : 1024 < v
        · skip
          have HR := Lib.hid (show false = pb by
            rw [HFORM.out, HBADK.out (by rw [Bool.eq_false_iff]; intro h; have := HINZ.out.1 h; omega)]
            rfl)
          clear HINZ
          go_wp2
          go_ret
          exact ⟨ret_bool HR.out, HB1.out⟩
        have e2 : IntKind.i64.wrap (z + v) = z + v := IntWalk.i64_in _ (by omega)
        have e3 : IntKind.i64.wrap (df + dn) = df + dn := IntWalk.i64_in _ (by omega)
        by_cases q5 : z < df
        · skip
          have HR := Lib.hid (show false = pb by
            rw [HFORM.out, HBADK.out (by rw [Bool.eq_false_iff]; intro h; have := HINZ.out.1 h; rw [HIL2.out] at this; simp at this; omega)]
            rfl)
          clear HINZ
          go_wp2
          go_ret
          exact ⟨ret_bool HR.out, HB1.out⟩
        by_cases q6 : df + dn < z + v
        · skip
          have HR := Lib.hid (show false = pb by
            rw [HFORM.out, HBADK.out (by rw [Bool.eq_false_iff]; intro h; have := HINZ.out.1 h; rw [HIL2.out] at this; simp at this; omega)]
            rfl)
          clear HINZ
          go_wp2
          go_ret
          exact ⟨ret_bool HR.out, HB1.out⟩
        have HN2 := Lib.hid (HNXK.out (HINZ.out.2 ⟨by omega, .inl (by omega)⟩))
        clear HINZ
        go_wp2
        go_roundw
        case rel => exact ⟨k + 1, by omega, by go_num, Lib.hid HN2.out, HGX1.out, HBX1.out, HB1.out⟩
        case measure => simp [intOf]; omega
      · obtain rfl : k = rs.length := by omega
        rw [List.take_length] at HPT
        have HS2 := Lib.hid (HSM.out HPT.out)
        have HFORM := Lib.hid (show pb = (ap && (sm == nd)) by rw [HFORM.out, HPT.out]; rfl)
        have HLR := Lib.hid (HL.out.below HB.out)
        clear HBAD HNX HIFF HPT HSM KIL HIL2 hlt hk
        cases ap with
        | false =>
          have HR := Lib.hid (show false = pb by rw [HFORM.out]; rfl)
          clear HFORM
          go_wp2_with fail
          clear c0 c1 c2 c3
          apply wp_region_inv' 155 (Eqs _ :: Eqs _ :: Eqs _ :: Eqs _ :: Eqs _ :: Eqs _ :: Eqs _ :: Eqs _ :: Eqs _ :: Eqs _ :: Eqs _ :: []) (by kernel_rfl) (by rfl) (stab_cons (stab_eq _) (stab_cons (stab_eq _) (stab_cons (stab_eq _) (stab_cons (stab_eq _) (stab_cons (stab_eq _) (stab_cons (stab_eq _) (stab_cons (stab_eq _) (stab_cons (stab_eq _) (stab_cons (stab_eq _) (stab_cons (stab_eq _) (stab_cons (stab_eq _) stab_nil))))))))))) (by kernel_rfl) (by kernel_rfl)
          case hstep =>
            refine StepsOK.cons ?_ ?_
            · -- 0: Go.Op.fieldAddr 93 (Go.Operand.tmp 3) 3
              intro a w1 hR1 hF hU hsz
              have e3 : a.eval (.tmp 3) = _ := hU 3 (by kernel_rfl)
              rw [if_pos (by rfl)]
              intro K hK
              clear hF hU hsz
              obtain ⟨q1, q2, q3⟩ := eval_rest a
              generalize hρ : a.eval = ρ
              rw [hρ] at q1 q2 q3 e3
              clear hρ
              have u1 := OpUp_value Try.prog K
              have u2 := OpUp_enter Try.prog K
              go_simp
              exact hK _ _ (Stood.refl _) rfl
            refine StepsOK.cons ?_ ?_
            · -- 1: Go.Op.load 91 (Go.Operand.tmp 145)
              intro a w1 hR1 hF hU hsz
              have e145 : a.eval (.tmp 145) = _ := hF 0 _ _ rfl rfl (by kernel_rfl)
              rw [if_pos (by rfl)]
              intro K hK
              clear hF hU hsz
              obtain ⟨i0_, i1_, i2_, i3_⟩ := cells4 (heap_below HBX.out (Stood.cur hR1))
              obtain ⟨q1, q2, q3⟩ := eval_rest a
              generalize hρ : a.eval = ρ
              rw [hρ] at q1 q2 q3 e145
              clear hρ
              have u1 := OpUp_value Try.prog K
              have u2 := OpUp_enter Try.prog K
              go_simp
              exact hK _ _ (Stood.refl _) rfl
            refine StepsOK.cons ?_ ?_
            · -- 2: Go.Op.call { callee := Go.Callee.value (Go.Operand.func 95), args := #[Go.Operan
              intro a w1 hR1 hF hU hsz
              have e146 : a.eval (.tmp 146) = _ := hF 1 _ _ rfl rfl (by kernel_rfl)
              rw [if_pos (by rfl)]
              intro K hK
              clear hF hU hsz
              obtain ⟨q1, q2, q3⟩ := eval_rest a
              generalize hρ : a.eval = ρ
              rw [hρ] at q1 q2 q3 e146
              clear hρ
              have u1 := OpUp_value Try.prog K
              have u2 := OpUp_enter Try.prog K
              go_simp
              refine (KAP.out w1 (HLR.out.below (Stood.cur hR1)) HS2.out).mono ?_
              rintro e w' ⟨rfl, hd⟩
              exact ⟨_, rfl, hK _ _ (hd.below _) rfl⟩
            refine StepsOK.cons ?_ ?_
            · -- 3: Go.Op.move (Go.Operand.tmp 147)
              intro a w1 hR1 hF hU hsz
              have e147 : a.eval (.tmp 147) = _ := hF 2 _ _ rfl rfl (by kernel_rfl)
              rw [if_pos (by rfl)]
              intro K hK
              clear hF hU hsz
              obtain ⟨q1, q2, q3⟩ := eval_rest a
              generalize hρ : a.eval = ρ
              rw [hρ] at q1 q2 q3 e147
              clear hρ
              have u1 := OpUp_value Try.prog K
              have u2 := OpUp_enter Try.prog K
              go_simp
              exact hK _ _ (Stood.refl _) rfl
            refine StepsOK.cons ?_ ?_
            · -- 4: Go.Op.load 93 (Go.Operand.tmp 3)
              intro a w1 hR1 hF hU hsz
              have e3 : a.eval (.tmp 3) = _ := hU 3 (by kernel_rfl)
              have e148 : a.eval (.tmp 148) = _ := hF 3 _ _ rfl rfl (by kernel_rfl)
              rw [wanted_guard (ops := _) rfl rfl rfl e148, if_neg (by decide)]
            refine StepsOK.cons ?_ ?_
            · -- 5: Go.Op.call { callee := Go.Callee.value (Go.Operand.func 62), args := #[Go.Operan
              intro a w1 hR1 hF hU hsz
              have e149 : a.eval (.tmp 149) = _ := hF 4 _ _ rfl rfl (by kernel_rfl)
              have e148 : a.eval (.tmp 148) = _ := hF 3 _ _ rfl rfl (by kernel_rfl)
              rw [wanted_guard (ops := _) rfl rfl rfl e148, if_neg (by decide)]
            refine StepsOK.cons ?_ ?_
            · -- 6: Go.Op.load 93 (Go.Operand.tmp 3)
              intro a w1 hR1 hF hU hsz
              have e3 : a.eval (.tmp 3) = _ := hU 3 (by kernel_rfl)
              have e148 : a.eval (.tmp 148) = _ := hF 3 _ _ rfl rfl (by kernel_rfl)
              rw [wanted_guard (ops := _) rfl rfl rfl e148, if_neg (by decide)]
            refine StepsOK.cons ?_ ?_
            · -- 7: Go.Op.call { callee := Go.Callee.value (Go.Operand.func 63), args := #[Go.Operan
              intro a w1 hR1 hF hU hsz
              have e151 : a.eval (.tmp 151) = _ := hF 6 _ _ rfl rfl (by kernel_rfl)
              have e148 : a.eval (.tmp 148) = _ := hF 3 _ _ rfl rfl (by kernel_rfl)
              rw [wanted_guard (ops := _) rfl rfl rfl e148, if_neg (by decide)]
            refine StepsOK.cons ?_ ?_
            · -- 8: Go.Op.binOp Go.BinOp.eql 3 (Go.Operand.tmp 150) (Go.Operand.tmp 152) 3
              intro a w1 hR1 hF hU hsz
              have e150 : a.eval (.tmp 150) = _ := hF 5 _ _ rfl rfl (by kernel_rfl)
              have e152 : a.eval (.tmp 152) = _ := hF 7 _ _ rfl rfl (by kernel_rfl)
              have e148 : a.eval (.tmp 148) = _ := hF 3 _ _ rfl rfl (by kernel_rfl)
              rw [wanted_guard (ops := _) rfl rfl rfl e148, if_neg (by decide)]
            refine StepsOK.cons ?_ ?_
            · -- 9: Go.Op.pick (Go.Operand.tmp 148) (Go.Operand.tmp 153) (Go.Operand.const (Go.Value
              intro a w1 hR1 hF hU hsz
              have e148 : a.eval (.tmp 148) = _ := hF 3 _ _ rfl rfl (by kernel_rfl)
              have e153 : a.eval (.tmp 153) = _ := hF 8 _ _ rfl rfl (by kernel_rfl)
              rw [if_pos (by rfl)]
              intro K hK
              clear hF hU hsz
              obtain ⟨q1, q2, q3⟩ := eval_rest a
              generalize hρ : a.eval = ρ
              rw [hρ] at q1 q2 q3 e148 e153
              clear hρ
              have u1 := OpUp_value Try.prog K
              have u2 := OpUp_enter Try.prog K
              go_simp
              exact hK _ _ (Stood.refl _) rfl
            refine StepsOK.cons ?_ ?_
            · -- 10: Go.Op.assign (Go.Operand.tmp 154)
              intro a w1 hR1 hF hU hsz
              have e154 : a.eval (.tmp 154) = _ := hF 9 _ _ rfl rfl (by kernel_rfl)
              rw [if_pos (by rfl)]
              intro K hK
              clear hF hU hsz
              obtain ⟨q1, q2, q3⟩ := eval_rest a
              generalize hρ : a.eval = ρ
              rw [hρ] at q1 q2 q3 e154
              clear hρ
              have u1 := OpUp_value Try.prog K
              have u2 := OpUp_enter Try.prog K
              go_simp
              exact hK _ _ (Stood.refl _) rfl
            exact StepsOK.nil
          case hend =>
            intro vs0 w1 hR1 hH0
            obtain ⟨vs1, rfl, hH1⟩ := hH0.eq_
            obtain ⟨vs2, rfl, hH2⟩ := hH1.eq_
            obtain ⟨vs3, rfl, hH3⟩ := hH2.eq_
            obtain ⟨vs4, rfl, hH4⟩ := hH3.eq_
            obtain ⟨vs5, rfl, hH5⟩ := hH4.eq_
            obtain ⟨vs6, rfl, hH6⟩ := hH5.eq_
            obtain ⟨vs7, rfl, hH7⟩ := hH6.eq_
            obtain ⟨vs8, rfl, hH8⟩ := hH7.eq_
            obtain ⟨vs9, rfl, hH9⟩ := hH8.eq_
            obtain ⟨vs10, rfl, hH10⟩ := hH9.eq_
            obtain ⟨vs11, rfl, hH11⟩ := hH10.eq_
            obtain rfl := hH11.nil
            clear hH0 hH1 hH2 hH3 hH4 hH5 hH6 hH7 hH8 hH9 hH10 hH11
            simp only [putAll, Act.put, List.setIfInBounds_toArray, List.set_cons_zero, List.set_cons_succ]
            have HB := Lib.hid (HB.out.trans ((Stood.cur hR1).mono HB.out.size))
            go_wp2
            go_ret
            exact ⟨ret_bool HR.out, HB.out⟩
        | true =>
          have HR := Lib.hid (show (sm == nd) = pb by rw [HFORM.out]; rfl)
          clear HFORM
          go_wp2_with fail
          clear c0 c1 c2 c3
          apply wp_region_inv' 155 (Eqs _ :: Eqs _ :: Eqs _ :: Eqs _ :: Eqs _ :: Eqs _ :: Eqs _ :: Eqs _ :: Eqs _ :: Eqs _ :: Eqs _ :: []) (by kernel_rfl) (by rfl) (stab_cons (stab_eq _) (stab_cons (stab_eq _) (stab_cons (stab_eq _) (stab_cons (stab_eq _) (stab_cons (stab_eq _) (stab_cons (stab_eq _) (stab_cons (stab_eq _) (stab_cons (stab_eq _) (stab_cons (stab_eq _) (stab_cons (stab_eq _) (stab_cons (stab_eq _) stab_nil))))))))))) (by kernel_rfl) (by kernel_rfl)
          case hstep =>
            refine StepsOK.cons ?_ ?_
            · -- 0: Go.Op.fieldAddr 93 (Go.Operand.tmp 3) 3
              intro a w1 hR1 hF hU hsz
              have e3 : a.eval (.tmp 3) = _ := hU 3 (by kernel_rfl)
              rw [if_pos (by rfl)]
              intro K hK
              clear hF hU hsz
              obtain ⟨q1, q2, q3⟩ := eval_rest a
              generalize hρ : a.eval = ρ
              rw [hρ] at q1 q2 q3 e3
              clear hρ
              have u1 := OpUp_value Try.prog K
              have u2 := OpUp_enter Try.prog K
              go_simp
              exact hK _ _ (Stood.refl _) rfl
            refine StepsOK.cons ?_ ?_
            · -- 1: Go.Op.load 91 (Go.Operand.tmp 145)
              intro a w1 hR1 hF hU hsz
              have e145 : a.eval (.tmp 145) = _ := hF 0 _ _ rfl rfl (by kernel_rfl)
              rw [if_pos (by rfl)]
              intro K hK
              clear hF hU hsz
              obtain ⟨i0_, i1_, i2_, i3_⟩ := cells4 (heap_below HBX.out (Stood.cur hR1))
              obtain ⟨q1, q2, q3⟩ := eval_rest a
              generalize hρ : a.eval = ρ
              rw [hρ] at q1 q2 q3 e145
              clear hρ
              have u1 := OpUp_value Try.prog K
              have u2 := OpUp_enter Try.prog K
              go_simp
              exact hK _ _ (Stood.refl _) rfl
            refine StepsOK.cons ?_ ?_
            · -- 2: Go.Op.call { callee := Go.Callee.value (Go.Operand.func 95), args := #[Go.Operan
              intro a w1 hR1 hF hU hsz
              have e146 : a.eval (.tmp 146) = _ := hF 1 _ _ rfl rfl (by kernel_rfl)
              rw [if_pos (by rfl)]
              intro K hK
              clear hF hU hsz
              obtain ⟨q1, q2, q3⟩ := eval_rest a
              generalize hρ : a.eval = ρ
              rw [hρ] at q1 q2 q3 e146
              clear hρ
              have u1 := OpUp_value Try.prog K
              have u2 := OpUp_enter Try.prog K
              go_simp
              refine (KAP.out w1 (HLR.out.below (Stood.cur hR1)) HS2.out).mono ?_
              rintro e w' ⟨rfl, hd⟩
              exact ⟨_, rfl, hK _ _ (hd.below _) rfl⟩
            refine StepsOK.cons ?_ ?_
            · -- 3: Go.Op.move (Go.Operand.tmp 147)
              intro a w1 hR1 hF hU hsz
              have e147 : a.eval (.tmp 147) = _ := hF 2 _ _ rfl rfl (by kernel_rfl)
              rw [if_pos (by rfl)]
              intro K hK
              clear hF hU hsz
              obtain ⟨q1, q2, q3⟩ := eval_rest a
              generalize hρ : a.eval = ρ
              rw [hρ] at q1 q2 q3 e147
              clear hρ
              have u1 := OpUp_value Try.prog K
              have u2 := OpUp_enter Try.prog K
              go_simp
              exact hK _ _ (Stood.refl _) rfl
            refine StepsOK.cons ?_ ?_
            · -- 4: Go.Op.load 93 (Go.Operand.tmp 3)
              intro a w1 hR1 hF hU hsz
              have e3 : a.eval (.tmp 3) = _ := hU 3 (by kernel_rfl)
              have e148 : a.eval (.tmp 148) = _ := hF 3 _ _ rfl rfl (by kernel_rfl)
              rw [wanted_guard (ops := _) rfl rfl rfl e148, if_pos (by rfl)]
              intro K hK
              clear hF hU hsz
              obtain ⟨i0_, i1_, i2_, i3_⟩ := cells4 (heap_below HBX.out (Stood.cur hR1))
              obtain ⟨q1, q2, q3⟩ := eval_rest a
              generalize hρ : a.eval = ρ
              rw [hρ] at q1 q2 q3 e3 e148
              clear hρ
              have u1 := OpUp_value Try.prog K
              have u2 := OpUp_enter Try.prog K
              go_simp
              exact hK _ _ (Stood.refl _) rfl
            refine StepsOK.cons ?_ ?_
            · -- 5: Go.Op.call { callee := Go.Callee.value (Go.Operand.func 62), args := #[Go.Operan
              intro a w1 hR1 hF hU hsz
              have e149 : a.eval (.tmp 149) = _ := hF 4 _ _ rfl rfl (by kernel_rfl)
              have e148 : a.eval (.tmp 148) = _ := hF 3 _ _ rfl rfl (by kernel_rfl)
              rw [wanted_guard (ops := _) rfl rfl rfl e148, if_pos (by rfl)]
              intro K hK
              clear hF hU hsz
              obtain ⟨q1, q2, q3⟩ := eval_rest a
              generalize hρ : a.eval = ρ
              rw [hρ] at q1 q2 q3 e148 e149
              clear hρ
              have u1 := OpUp_value Try.prog K
              have u2 := OpUp_enter Try.prog K
              go_simp
              refine (KBL.out w1 (HLR.out.below (Stood.cur hR1))).mono ?_
              rintro e w' ⟨rfl, hb⟩
              exact ⟨_, rfl, hK _ _ hb rfl⟩
            refine StepsOK.cons ?_ ?_
            · -- 6: Go.Op.load 93 (Go.Operand.tmp 3)
              intro a w1 hR1 hF hU hsz
              have e3 : a.eval (.tmp 3) = _ := hU 3 (by kernel_rfl)
              have e148 : a.eval (.tmp 148) = _ := hF 3 _ _ rfl rfl (by kernel_rfl)
              rw [wanted_guard (ops := _) rfl rfl rfl e148, if_pos (by rfl)]
              intro K hK
              clear hF hU hsz
              obtain ⟨i0_, i1_, i2_, i3_⟩ := cells4 (heap_below HBX.out (Stood.cur hR1))
              obtain ⟨q1, q2, q3⟩ := eval_rest a
              generalize hρ : a.eval = ρ
              rw [hρ] at q1 q2 q3 e3 e148
              clear hρ
              have u1 := OpUp_value Try.prog K
              have u2 := OpUp_enter Try.prog K
              go_simp
              exact hK _ _ (Stood.refl _) rfl
            refine StepsOK.cons ?_ ?_
            · -- 7: Go.Op.call { callee := Go.Callee.value (Go.Operand.func 63), args := #[Go.Operan
              intro a w1 hR1 hF hU hsz
              have e151 : a.eval (.tmp 151) = _ := hF 6 _ _ rfl rfl (by kernel_rfl)
              have e148 : a.eval (.tmp 148) = _ := hF 3 _ _ rfl rfl (by kernel_rfl)
              rw [wanted_guard (ops := _) rfl rfl rfl e148, if_pos (by rfl)]
              intro K hK
              clear hF hU hsz
              obtain ⟨q1, q2, q3⟩ := eval_rest a
              generalize hρ : a.eval = ρ
              rw [hρ] at q1 q2 q3 e148 e151
              clear hρ
              have u1 := OpUp_value Try.prog K
              have u2 := OpUp_enter Try.prog K
              go_simp
              refine (KND.out w1).mono ?_
              rintro e w' ⟨rfl, hb⟩
              exact ⟨_, rfl, hK _ _ hb rfl⟩
            refine StepsOK.cons ?_ ?_
            · -- 8: Go.Op.binOp Go.BinOp.eql 3 (Go.Operand.tmp 150) (Go.Operand.tmp 152) 3
              intro a w1 hR1 hF hU hsz
              have e150 : a.eval (.tmp 150) = _ := hF 5 _ _ rfl rfl (by kernel_rfl)
              have e152 : a.eval (.tmp 152) = _ := hF 7 _ _ rfl rfl (by kernel_rfl)
              have e148 : a.eval (.tmp 148) = _ := hF 3 _ _ rfl rfl (by kernel_rfl)
              rw [wanted_guard (ops := _) rfl rfl rfl e148, if_pos (by rfl)]
              intro K hK
              clear hF hU hsz
              obtain ⟨q1, q2, q3⟩ := eval_rest a
              generalize hρ : a.eval = ρ
              rw [hρ] at q1 q2 q3 e148 e150 e152
              clear hρ
              have u1 := OpUp_value Try.prog K
              have u2 := OpUp_enter Try.prog K
              go_simp
              exact hK _ _ (Stood.refl _) rfl
            refine StepsOK.cons ?_ ?_
            · -- 9: Go.Op.pick (Go.Operand.tmp 148) (Go.Operand.tmp 153) (Go.Operand.const (Go.Value
              intro a w1 hR1 hF hU hsz
              have e148 : a.eval (.tmp 148) = _ := hF 3 _ _ rfl rfl (by kernel_rfl)
              have e153 : a.eval (.tmp 153) = _ := hF 8 _ _ rfl rfl (by kernel_rfl)
              rw [if_pos (by rfl)]
              intro K hK
              clear hF hU hsz
              obtain ⟨q1, q2, q3⟩ := eval_rest a
              generalize hρ : a.eval = ρ
              rw [hρ] at q1 q2 q3 e148 e153
              clear hρ
              have u1 := OpUp_value Try.prog K
              have u2 := OpUp_enter Try.prog K
              go_simp
              exact hK _ _ (Stood.refl _) rfl
            refine StepsOK.cons ?_ ?_
            · -- 10: Go.Op.assign (Go.Operand.tmp 154)
              intro a w1 hR1 hF hU hsz
              have e154 : a.eval (.tmp 154) = _ := hF 9 _ _ rfl rfl (by kernel_rfl)
              rw [if_pos (by rfl)]
              intro K hK
              clear hF hU hsz
              obtain ⟨q1, q2, q3⟩ := eval_rest a
              generalize hρ : a.eval = ρ
              rw [hρ] at q1 q2 q3 e154
              clear hρ
              have u1 := OpUp_value Try.prog K
              have u2 := OpUp_enter Try.prog K
              go_simp
              exact hK _ _ (Stood.refl _) rfl
            exact StepsOK.nil
          case hend =>
            intro vs0 w1 hR1 hH0
            obtain ⟨vs1, rfl, hH1⟩ := hH0.eq_
            obtain ⟨vs2, rfl, hH2⟩ := hH1.eq_
            obtain ⟨vs3, rfl, hH3⟩ := hH2.eq_
            obtain ⟨vs4, rfl, hH4⟩ := hH3.eq_
            obtain ⟨vs5, rfl, hH5⟩ := hH4.eq_
            obtain ⟨vs6, rfl, hH6⟩ := hH5.eq_
            obtain ⟨vs7, rfl, hH7⟩ := hH6.eq_
            obtain ⟨vs8, rfl, hH8⟩ := hH7.eq_
            obtain ⟨vs9, rfl, hH9⟩ := hH8.eq_
            obtain ⟨vs10, rfl, hH10⟩ := hH9.eq_
            obtain ⟨vs11, rfl, hH11⟩ := hH10.eq_
            obtain rfl := hH11.nil
            clear hH0 hH1 hH2 hH3 hH4 hH5 hH6 hH7 hH8 hH9 hH10 hH11
            simp only [putAll, Act.put, List.setIfInBounds_toArray, List.set_cons_zero, List.set_cons_succ]
            have HB := Lib.hid (HB.out.trans ((Stood.cur hR1).mono HB.out.size))
            go_wp2
            go_ret
            exact ⟨ret_bool HR.out, HB.out⟩
end Go.Proofs.Ytgkojedgamglgaa
