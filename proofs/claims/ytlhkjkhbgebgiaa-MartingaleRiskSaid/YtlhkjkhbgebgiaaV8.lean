/- electionmake.Perm. -/
import Derived.Test.YtlhkjkhbgebgiaaV7
namespace Go.Proofs.Ytlhkjkhbgebgiaa
open Go.RowKit Go.Proofs.Kit Go.Proofs.Nums

/-- What Perm hands back: a list of n numbers below n. -/
def PermAt (B : Nat) (n : Int) (m : Nat) (v : Value) (w : World) : Prop := ∃ l : List Int, IntsAt w v l ∧ l.length = m ∧ (∀ x ∈ l, 0 ≤ x ∧ x < n) ∧ Fresh B v ∧ (m = 0 → v = .slice none 0 0)

theorem mem_ins {l : List Int} {k : Nat} {i n : Int} (h : ∀ x ∈ l, 0 ≤ x ∧ x < n) (h0 : 0 ≤ i) (h1 : i < n) : ∀ x ∈ l.take k ++ [i] ++ l.drop k, 0 ≤ x ∧ x < n := by
  intro x hx
  rcases List.mem_append.1 hx with g | g
  · rcases List.mem_append.1 g with g | g
    · exact h x (List.mem_of_mem_take g)
    · rw [List.mem_singleton.1 g]; exact ⟨h0, h1⟩
  · exact h x (List.mem_of_mem_drop g)

theorem one_row (w : World) (i : Int) (T : TypeId) : RowAt (w.alloc (.cells #[.int .i64 i] T)) (.slice (some ⟨w.heap.size, 0, none⟩) 1 1) ([i].map (Value.int .i64)) :=
  RowAt.mk (b := w.heap.size) (off := 0) (cap := 1) (Nat.le_refl _) (by omega) (fun j u hj => by
    rw [Nat.zero_add]
    have := cell_alloc_new w #[.int .i64 i] T (0, 0) j
    rw [this]
    simpa using hj)

set_option maxRecDepth 100000 in
set_option maxHeartbeats 8000000 in
theorem perm_c (n : Nat) (hn : n ≤ 12) (code : Int) (hc1 : -9223372036854775808 ≤ code) (hc2 : code ≤ 9223372036854775807) (w : World) :
    Calls Try.prog 19 #[.int .i64 n, .int .i64 code] w fun e w' => ∃ v, e = .returned v ∧ PermAt w.heap.size n n v w' ∧ Below w.heap.size w w' := by
  go_enter Try.func19, Try.ntmps19
  go_wp2_with fail
  go_loopw [1, 5, 6, 7] (fun cv ov iv _ wr => ∃ c : Int, ∃ i : Nat, i ≤ n ∧ -9223372036854775808 ≤ c ∧ c ≤ 9223372036854775807 ∧ cv = .int .i64 c ∧ iv = .int .i64 i ∧ Hid (PermAt w.heap.size n i ov wr) ∧ Below w.heap.size w wr) (fun _ _ iv _ _ => n - (intOf iv).toNat)
  case atStart => exact ⟨code, 0, by omega, hc1, hc2, rfl, rfl, Lib.hid ⟨[], RowAt.nil _, rfl, fun x hx => by simp at hx, Fresh.nil _, fun _ => rfl⟩, Below.refl _ _⟩
  case round =>
    obtain ⟨c, i, hi, g1, g2, rfl, rfl, hP, hbel⟩ := hrel
    by_cases hlt : i < n
    · obtain ⟨m1, hm1⟩ : ∃ x, (i : Int) + 1 = x := ⟨_, rfl⟩
      have e1 : 1 ≤ m1 := by omega
      have e2 : m1 ≤ 13 := by omega
      have hk1 := Int.emod_nonneg c (show m1 ≠ 0 by omega)
      have hk2 := Int.emod_lt_of_pos c (show 0 < m1 by omega)
      obtain ⟨kz, hkz⟩ : ∃ x, c % m1 = x := ⟨_, rfl⟩
      rw [hkz] at hk1 hk2
      have C : Hid (∀ w, Calls Try.prog 16 #[.int .i64 c, .int .i64 m1] w fun e w' => e = .returned (.int .i64 kz) ∧ w = w') := Lib.hid (fun w => by rw [← hkz]; exact mod_c c m1 (by omega) (by omega) w)
      have hq : (c.tdiv m1).natAbs ≤ c.natAbs := by rw [Int.natAbs_tdiv]; exact Nat.div_le_self _ _
      obtain ⟨qq, hqq⟩ : ∃ x, c.tdiv m1 = x := ⟨_, rfl⟩
      have hq3 : -9223372036854775808 ≤ qq ∧ qq ≤ 9223372036854775807 := by
        rw [← hqq]
        by_cases h0 : 0 ≤ c
        · have := Int.tdiv_nonneg h0 (show 0 ≤ m1 by omega)
          omega
        · have h3 := Int.tdiv_nonneg (show 0 ≤ -c by omega) (show 0 ≤ m1 by omega)
          rw [Int.neg_tdiv] at h3
          omega
      obtain ⟨q1, q2⟩ := hq3
      have uq : IntKind.i64.wrap qq = qq := w64 q1 q2
      have z1 : ¬ m1 = 0 := by omega
      have z2 : (m1 == 0) = false := by rw [beq_eq_false_iff_ne]; omega
      obtain ⟨k, hk⟩ : ∃ k : Nat, kz = k := ⟨kz.toNat, by omega⟩
      subst hk
      have hki : k ≤ i := by omega
      clear hkz hq hk1 hk2
      obtain ⟨l, hl, hlen, hmem, hfr, hnil⟩ := hP.out
      have hins : Hid (∀ x ∈ l.take k ++ [(i : Int)] ++ l.drop k, 0 ≤ x ∧ x < (n : Int)) := Lib.hid (mem_ins hmem (by omega) (by omega))
      have hlen2 : Hid ((l.take k ++ [(i : Int)] ++ l.drop k).length = i + 1) := Lib.hid (by simp only [List.length_append, List.length_take, List.length_drop, List.length_singleton]; omega)
      by_cases hi0 : i = 0
      · subst hi0
        obtain rfl : k = 0 := by omega
        have hv := hnil rfl
        have hl0 : l = [] := List.eq_nil_of_length_eq_zero hlen
        subst hl0
        subst hv
        obtain rfl : m1 = 1 := by omega
        have uc : IntKind.i64.wrap c = c := w64 g1 g2
        obtain ⟨T, hT⟩ : ∃ T : List Value, (([] : List Int).take 0).map (Value.int .i64) = T := ⟨_, rfl⟩
        obtain ⟨D, hD⟩ : ∃ D : List Value, (([] : List Int).drop 0).map (Value.int .i64) = D := ⟨_, rfl⟩
        have lT : T.length = 0 := by rw [← hT]; rfl
        have lD : D.length = 0 := by rw [← hD]; rfl
        have HT : Hid (RowAt wr (.slice none 0 0) T) := Lib.hid (by rw [← hT]; exact RowAt.nil _)
        have HD : Hid (RowAt wr (.slice none 0 0) D) := Lib.hid (by rw [← hD]; exact RowAt.nil _)
        have HO : Hid (∀ u ∈ T, u.oneCell' = true) := Lib.hid (by rw [← hT]; exact ints_one _)
        have HO2 : Hid (∀ u ∈ D, u.oneCell' = true) := Lib.hid (by rw [← hD]; exact ints_one _)
        have HO1 : Hid (∀ u ∈ [Value.int .i64 (0 : Int)], u.oneCell' = true) := Lib.hid (fun u hu => by rw [List.mem_singleton.1 hu]; rfl)
        have HTD := Lib.hid (And.intro hT hD)
        clear hP hl hlen hmem hfr hnil hqq uq hT hD hm1
        go_wp2_with (first
          | (go_at_call 16; ((with_reducible refine (C.out _).mono ?_); rintro e w1 ⟨rfl, rfl⟩)))
        go_region_law (first
          | (refine step_append_read erI (by rfl) (by rfl) (World.ownsRow_nil _ _ _ _) (by rfl) (xv := .slice none 0 0) ?_ (by rfl) HO.out ?_ ?_ (Nat.le_refl _) ?_; (first | exact HT.out.keep (Below.refl _ _).drew | exact (HT.out.keep (Below.refl _ _).drew).alloc _); omega; omega; intro v1 w1 hown1 hb1; have hB1 : Below wr.heap.size wr w1 := (by first | exact bel2' (Below.refl _ _).drew hb1 | exact bel2' (bal (Below.refl _ _).drew _) hb1))
          | (refine step_append_read erI (by rfl) (by rfl) (by first | exact hown1 | exact ownsRow_below hown1 ((Below.refl _ _).alloc (Nat.le_refl _) _)) (by rfl) (cs := [Value.int .i64 (0 : Int)]) ?_ (by rfl) HO1.out ?_ ?_ ?_ ?_; (first | exact one_row w1 _ _ | exact ((one_row wr _ _).keep (Below.refl _ _).drew).keep hb1); (simp only [List.length_singleton]; omega); (simp only [List.length_singleton]; omega); (first | exact hb1.size | exact Nat.le_trans hb1.size (by simp)); intro v2 w2 hown2 hb2; have hB2 : Below wr.heap.size wr w2 := (by first | exact hB1.trans (hb2.mono (by simp)) | exact (bal hB1 _).trans (hb2.mono (by simp))))
          | (refine step_append_read erI (by rfl) (by rfl) hown2 (by rfl) (xv := .slice none 0 0) ?_ (by rfl) HO2.out ?_ ?_ ?_ ?_; exact HD.out.keep hB2; (simp only [List.length_singleton]; omega); (simp only [List.length_singleton]; omega); (first | exact hb2.size | exact Nat.le_trans (by first | exact hb1.size | exact Nat.le_trans hb1.size (by simp)) hb2.size); intro v3 w3 hown3 hb3; have hB3 : Below wr.heap.size wr w3 := hB2.trans (hb3.mono (by simp))))
        all_goals
          go_wp2_with fail
          have hrow : IntsAt w3 v3 (([] : List Int).take 0 ++ [((0 : Nat) : Int)] ++ ([] : List Int).drop 0) := by
            have h := RowAt.owned hown3
            rw [← HTD.out.1, ← HTD.out.2] at h
            show RowAt w3 v3 ((([] : List Int).take 0 ++ [((0 : Nat) : Int)] ++ ([] : List Int).drop 0).map (Value.int .i64))
            simpa [List.map_append, List.map_take, List.map_drop] using h
          have hfr : Fresh w.heap.size v3 := (Fresh.owned hown3).mono (by have := hbel.size; first | exact this | (simp; omega))
          go_roundw
          case rel => exact ⟨c, 0 + 1, by omega, by assumption, by assumption, rfl, by go_num, Lib.hid ⟨_, hrow, hlen2.out, hins.out, hfr, fun h => absurd h (by omega)⟩, bel2' hbel hB3⟩
          case measure => simp [intOf] <;> omega
      · obtain ⟨p, cap, hsl⟩ := hl.shape
        subst hsl
        rw [hlen] at hl
        rw [hlen]
        have hrow : ∃ b off, p = some ⟨b, off, none⟩ ∧ i ≤ cap := by
          obtain ⟨b, off, e, h2, _⟩ := IntsAt.cellAt hl 0 (by omega)
          exact ⟨b, off, e, by omega⟩
        obtain ⟨b, off, rfl, hcap⟩ := hrow
        have s1 : (0 : Int) ≤ (k : Int) := by omega
        have s2 : (k : Int) ≤ (i : Int) := by omega
        have s3 : (k : Int) ≤ (cap : Int) := by omega
        have s4 : (i : Int) ≤ (cap : Int) := by omega
        have s5 : k ≤ i := hki
        have s6 : k ≤ cap := by omega
        have HT0 := RowAt.take hl k (by rw [List.length_map]; omega)
        obtain ⟨T, hT⟩ : ∃ T : List Value, (l.map (Value.int .i64)).take k = T := ⟨_, rfl⟩
        obtain ⟨D, hD⟩ : ∃ D : List Value, (l.map (Value.int .i64)).drop k = D := ⟨_, rfl⟩
        have lT : T.length = k := by rw [← hT, List.length_take, List.length_map]; omega
        have lD : D.length = i - k := by rw [← hD, List.length_drop, List.length_map]; omega
        have HO : Hid (∀ u ∈ T, u.oneCell' = true) := Lib.hid (by rw [← hT]; exact fun u hu => ints_one l u (List.mem_of_mem_take hu))
        have HO2 : Hid (∀ u ∈ D, u.oneCell' = true) := Lib.hid (by rw [← hD]; exact fun u hu => ints_one l u (List.mem_of_mem_drop hu))
        have HO1 : Hid (∀ u ∈ [Value.int .i64 (i : Int)], u.oneCell' = true) := Lib.hid (fun u hu => by rw [List.mem_singleton.1 hu]; rfl)
        rw [hT] at HT0
        have HT := Lib.hid HT0
        rcases Nat.eq_or_lt_of_le (show k ≤ cap by omega) with hck | hck
        · have hik : k = i := by omega
          subst hik
          subst hck
          have HD : Hid (RowAt wr (.slice (some ⟨b, off, none⟩) 0 0) D) := Lib.hid (by
            have : D = [] := List.eq_nil_of_length_eq_zero (by rw [lD]; omega)
            rw [this]; exact RowAt.empty (by omega) (fun h => by simp at h))
          have HTD := Lib.hid (And.intro hT hD)
          clear hP hl hlen hmem hfr hnil HT0 hT hD
          go_wp2_with (first
            | (go_at_call 16; ((with_reducible refine (C.out _).mono ?_); rintro e w1 ⟨rfl, rfl⟩)))
          go_region_law (first
            | (refine step_append_read erI (by rfl) (by rfl) (World.ownsRow_nil _ _ _ _) (by rfl) (xv := .slice (some ⟨b, off, none⟩) k k) ?_ (by rfl) HO.out ?_ ?_ (Nat.le_refl _) ?_; (first | exact HT.out.keep (Below.refl _ _).drew | exact (HT.out.keep (Below.refl _ _).drew).alloc _); omega; omega; intro v1 w1 hown1 hb1; have hB1 : Below wr.heap.size wr w1 := (by first | exact bel2' (Below.refl _ _).drew hb1 | exact bel2' (bal (Below.refl _ _).drew _) hb1))
            | (refine step_append_read erI (by rfl) (by rfl) (by first | exact hown1 | exact ownsRow_below hown1 ((Below.refl _ _).alloc (Nat.le_refl _) _)) (by rfl) (cs := [Value.int .i64 (k : Int)]) ?_ (by rfl) HO1.out ?_ ?_ ?_ ?_; (first | exact one_row w1 _ _ | exact ((one_row wr _ _).keep (Below.refl _ _).drew).keep hb1); (simp only [List.length_singleton]; omega); (simp only [List.length_singleton]; omega); (first | exact hb1.size | exact Nat.le_trans hb1.size (by simp)); intro v2 w2 hown2 hb2; have hB2 : Below wr.heap.size wr w2 := (by first | exact hB1.trans (hb2.mono (by simp)) | exact (bal hB1 _).trans (hb2.mono (by simp))))
            | (refine step_append_read erI (by rfl) (by rfl) hown2 (by rfl) (xv := .slice (some ⟨b, off, none⟩) 0 0) ?_ (by rfl) HO2.out ?_ ?_ ?_ ?_; exact HD.out.keep hB2; (simp only [List.length_singleton]; omega); (simp only [List.length_singleton]; omega); (first | exact hb2.size | exact Nat.le_trans (by first | exact hb1.size | exact Nat.le_trans hb1.size (by simp)) hb2.size); intro v3 w3 hown3 hb3; have hB3 : Below wr.heap.size wr w3 := hB2.trans (hb3.mono (by simp))))
          all_goals
            go_wp2_with fail
            have hrow : IntsAt w3 v3 (l.take k ++ [(k : Int)] ++ l.drop k) := by
              have h := RowAt.owned hown3
              rw [← HTD.out.1, ← HTD.out.2] at h
              show RowAt w3 v3 ((l.take k ++ [(k : Int)] ++ l.drop k).map (Value.int .i64))
              simpa [List.map_append, List.map_take, List.map_drop] using h
            have hfr : Fresh w.heap.size v3 := (Fresh.owned hown3).mono (by have := hbel.size; first | exact this | (simp; omega))
            go_roundw
            case rel => exact ⟨qq, k + 1, by omega, by assumption, by assumption, rfl, by go_num, Lib.hid ⟨_, hrow, hlen2.out, hins.out, hfr, fun h => absurd h (by omega)⟩, bel2' hbel hB3⟩
            case measure => simp [intOf] <;> omega
        · have hck2 : ¬ cap = k := by omega
          have HD0 := RowAt.dropK hl k (by rw [List.length_map]; omega)
          rw [hD] at HD0
          have HD := Lib.hid HD0
          clear HD0
          have HTD := Lib.hid (And.intro hT hD)
          clear hP hl hlen hmem hfr hnil HT0 hT hD
          go_wp2_with (first
            | (go_at_call 16; ((with_reducible refine (C.out _).mono ?_); rintro e w1 ⟨rfl, rfl⟩)))
          go_region_law (first
            | (refine step_append_read erI (by rfl) (by rfl) (World.ownsRow_nil _ _ _ _) (by rfl) (xv := .slice (some ⟨b, off, none⟩) k cap) ?_ (by rfl) HO.out ?_ ?_ (Nat.le_refl _) ?_; (first | exact HT.out.keep (Below.refl _ _).drew | exact (HT.out.keep (Below.refl _ _).drew).alloc _); omega; omega; intro v1 w1 hown1 hb1; have hB1 : Below wr.heap.size wr w1 := (by first | exact bel2' (Below.refl _ _).drew hb1 | exact bel2' (bal (Below.refl _ _).drew _) hb1))
            | (refine step_append_read erI (by rfl) (by rfl) (by first | exact hown1 | exact ownsRow_below hown1 ((Below.refl _ _).alloc (Nat.le_refl _) _)) (by rfl) (cs := [Value.int .i64 (i : Int)]) ?_ (by rfl) HO1.out ?_ ?_ ?_ ?_; (first | exact one_row w1 _ _ | exact ((one_row wr _ _).keep (Below.refl _ _).drew).keep hb1); (simp only [List.length_singleton]; omega); (simp only [List.length_singleton]; omega); (first | exact hb1.size | exact Nat.le_trans hb1.size (by simp)); intro v2 w2 hown2 hb2; have hB2 : Below wr.heap.size wr w2 := (by first | exact hB1.trans (hb2.mono (by simp)) | exact (bal hB1 _).trans (hb2.mono (by simp))))
            | (refine step_append_read erI (by rfl) (by rfl) hown2 (by rfl) (xv := .slice (some ⟨b, off + k, none⟩) (i - k) (cap - k)) ?_ (by rfl) HO2.out ?_ ?_ ?_ ?_; exact HD.out.keep hB2; (simp only [List.length_singleton]; omega); (simp only [List.length_singleton]; omega); (first | exact hb2.size | exact Nat.le_trans (by first | exact hb1.size | exact Nat.le_trans hb1.size (by simp)) hb2.size); intro v3 w3 hown3 hb3; have hB3 : Below wr.heap.size wr w3 := hB2.trans (hb3.mono (by simp))))
          all_goals
            go_wp2_with fail
            have hrow : IntsAt w3 v3 (l.take k ++ [(i : Int)] ++ l.drop k) := by
              have h := RowAt.owned hown3
              rw [← HTD.out.1, ← HTD.out.2] at h
              show RowAt w3 v3 ((l.take k ++ [(i : Int)] ++ l.drop k).map (Value.int .i64))
              simpa [List.map_append, List.map_take, List.map_drop] using h
            have hfr : Fresh w.heap.size v3 := (Fresh.owned hown3).mono (by have := hbel.size; first | exact this | (simp; omega))
            go_roundw
            case rel => exact ⟨qq, i + 1, by omega, by assumption, by assumption, rfl, by go_num, Lib.hid ⟨_, hrow, hlen2.out, hins.out, hfr, fun h => absurd h (by omega)⟩, bel2' hbel hB3⟩
            case measure => simp [intOf] <;> omega
    · obtain rfl : i = n := by omega
      go_wp2_with fail
      go_ret
      exact ⟨_, rfl, hP.out, hbel⟩

end Go.Proofs.Ytlhkjkhbgebgiaa
