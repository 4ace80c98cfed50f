/- What the tokens of a printed definition are parsed as. -/
import Derived.Test.YthdcgplocdehjaaHa
namespace Go.Proofs.Ythdcgplocdehjaa
open Go.RowKit Go.Proofs.Kit

section
variable {T : List Tok} {i : Nat} {k : Int} {x : List UInt8} {n : Nat} {r : List Tok}
theorem tk_drop {t : Tok} (h : T.drop i = t :: r) : tk T i = t ∧ i < T.length ∧ T.drop (i + 1) = r := by
  have hi : i < T.length := by
    by_cases hi : i < T.length
    · exact hi
    · rw [List.drop_of_length_le (by omega)] at h; simp at h
  have e : T[i] :: T.drop (i + 1) = t :: r := by rw [List.getElem_cons_drop]; exact h
  injection e with e1 e2
  refine ⟨?_, hi, e2⟩
  unfold tk
  rw [List.getD_eq_getElem?_getD, List.getElem?_eq_getElem hi]
  exact e1
theorem isP_at (h : T.drop i = (k, x, n) :: r) (kind : Int) (text : List UInt8) : isP T ⟨i, 0⟩ kind text = ((k == kind) && (text.isEmpty || (x == text))) := by
  unfold isP
  rw [(tk_drop h).1]
  simp
theorem P_not (h : T.drop i = (k, x, n) :: r) {kind : Int} (text : List UInt8) (hk : k ≠ kind) : isP T ⟨i, 0⟩ kind text = false := by
  rw [isP_at h, show (k == kind) = false by rw [beq_eq_false_iff_ne]; exact hk]; rfl
theorem P_text (h : T.drop i = (k, x, n) :: r) {text : List UInt8} (ht : text.isEmpty = false) (hx : (x == text) = false) (kind : Int) : isP T ⟨i, 0⟩ kind text = false := by
  rw [isP_at h, ht, hx]; simp
theorem P_yes (h : T.drop i = (k, x, n) :: r) {text : List UInt8} (ht : (text.isEmpty || (x == text)) = true) : isP T ⟨i, 0⟩ k text = true := by
  rw [isP_at h, ht]; simp
theorem P_take (h : T.drop i = (k, x, n) :: r) (h5 : k ≠ 5) {text : List UInt8} (ht : (text.isEmpty || (x == text)) = true) : takeT T ⟨i, 0⟩ k text = (k, x, n) ∧ takeS T ⟨i, 0⟩ k text = ⟨i + 1, 0⟩ ∧ needS T ⟨i, 0⟩ k text = ⟨i + 1, 0⟩ := by
  have hp := P_yes h ht
  have e : nextP ⟨i, 0⟩ k = ⟨i + 1, 0⟩ := by unfold nextP; rw [if_neg h5]
  refine ⟨by rw [takeT_yes hp]; exact (tk_drop h).1, by rw [takeS_yes hp, e], by rw [needS_yes hp, e]⟩
/-- A value: what follows it is no '/'. -/
theorem P_val {v : List UInt8} {c : List UInt8} {m : Nat} (hc : (c == [47]) = false) (hr : r = (4, c, m) :: r.tail) (h : T.drop i = valTok v n ++ r) : valT T ⟨i, 0⟩ = v ∧ ∃ j, valS T ⟨i, 0⟩ = ⟨j, 0⟩ ∧ T.drop j = r := by
  unfold valTok at h
  split at h
  · have hp := P_yes (text := []) h rfl
    obtain ⟨h1, h2, h3⟩ := P_take (text := []) h (by decide) rfl
    unfold valT valS
    rw [if_pos hp, if_pos hp, h2, (tk_drop h).1]
    exact ⟨rfl, _, rfl, (tk_drop h).2.2⟩
  · split at h
    · have hp1 := P_not (kind := 1) h [] (by decide)
      have hp3 := P_not (kind := 3) h [] (by decide)
      obtain ⟨h1, h2, h3⟩ := P_take (text := []) h (by decide) rfl
      have hd := (tk_drop h).2.2
      have hd2 : T.drop (i + 1) = (4, c, m) :: r.tail := by rw [← hr]; exact hd
      have hp4 := P_text (text := [47]) hd2 rfl hc 4
      unfold valT valS
      simp only [hp1, hp3, h3, hp4, h1, Bool.false_eq_true, if_false]
      exact ⟨by first | rfl | trivial, _, rfl, hd⟩
    · split at h
      · rename_i hw hn hb
        obtain ⟨b1, b2, b3⟩ := bare_kinds hb (by simpa using hw) (by simpa using hn)
        have hp1 := P_not (kind := 1) h [] (by decide)
        have hp3 := P_not (kind := 3) h [] (by decide)
        obtain ⟨h1, h2, h3⟩ := P_take (text := []) h (by decide) rfl
        have hd := (tk_drop h).2.2
        have hp4 := P_yes (text := [47]) hd rfl
        obtain ⟨g1, g2, g3⟩ := P_take (text := [47]) hd (by decide) rfl
        have hd2 := (tk_drop hd).2.2
        obtain ⟨k1, k2, k3⟩ := P_take (text := []) hd2 (by decide) rfl
        unfold valT valS
        simp only [hp1, hp3, h3, hp4, h1, g2, k1, k3, Bool.false_eq_true, if_false, if_true]
        exact ⟨(slash_split b1).symm, _, rfl, (tk_drop hd2).2.2⟩
      · have hp1 := P_not (kind := 1) h [] (by decide)
        have hp3 := P_yes (text := []) h rfl
        obtain ⟨h1, h2, h3⟩ := P_take (text := []) h (by decide) rfl
        unfold valT valS
        rw [if_neg (by rw [hp1]; simp), if_pos hp3, if_neg (by rw [hp1]; simp), if_pos hp3, h2, (tk_drop h).1]
        exact ⟨rfl, _, rfl, (tk_drop h).2.2⟩
end
section
variable {T : List Tok}
theorem P_com (n : Nat) (r : List Tok) : ∀ (vs : List (List UInt8)) (f i : Nat), vs.length ≤ f → T.drop i = comTok vs n ++ (4, [59], n) :: r → comT T f ⟨i, 0⟩ = vs ∧ ∃ j, comS T f ⟨i, 0⟩ = ⟨j, 0⟩ ∧ T.drop j = (4, [59], n) :: r := by
  intro vs
  induction vs with
  | nil =>
    intro f i _ h
    have hp := P_text (text := [44]) (k := 4) (x := [59]) (n := n) (r := r) (T := T) (i := i) h rfl rfl 4
    obtain ⟨e1, e2⟩ := comT_no (f := f) hp
    exact ⟨e1, i, e2, h⟩
  | cons v vs ih =>
    intro f i hf h
    obtain ⟨g, rfl⟩ : ∃ g, f = g + 1 := ⟨f - 1, by rw [List.length_cons] at hf; omega⟩
    have h0 : T.drop i = (4, [44], n) :: (valTok v n ++ (comTok vs n ++ (4, [59], n) :: r)) := by rw [h]; unfold comTok; simp
    have hp := P_yes (text := [44]) h0 rfl
    obtain ⟨h1, h2, h3⟩ := P_take (text := [44]) h0 (by decide) rfl
    obtain ⟨e1, e2⟩ := comT_yes (f := g) hp
    have hv : ∃ c m, (c == [47]) = false ∧ comTok vs n ++ (4, [59], n) :: r = (4, c, m) :: (comTok vs n ++ (4, [59], n) :: r).tail := by
      cases vs with
      | nil => exact ⟨[59], n, rfl, rfl⟩
      | cons y ys => exact ⟨[44], n, rfl, rfl⟩
    obtain ⟨c, m, hc, hr⟩ := hv
    obtain ⟨v1, j, v2, v3⟩ := P_val hc hr (tk_drop h0).2.2
    rw [h2, v1, v2] at e1
    rw [h2, v2] at e2
    obtain ⟨i1, j2, i2, i3⟩ := ih g j (by rw [List.length_cons] at hf; omega) v3
    rw [i1] at e1
    exact ⟨e1, j2, by rw [e2, i2], i3⟩
variable {α : Type}
theorem comTok_len (n : Nat) : ∀ vs : List (List UInt8), vs.length ≤ (comTok vs n).length := by
  intro vs
  induction vs with
  | nil => exact Nat.le_refl _
  | cons v vs ih =>
    have e : comTok (v :: vs) n = (4, [44], n) :: (valTok v n ++ comTok vs n) := by unfold comTok; simp
    rw [e, List.length_cons, List.length_cons, List.length_append]
    omega
theorem drop_len {i : Nat} {l : List Tok} (h : T.drop i = l) : l.length ≤ T.length := by rw [← h, List.length_drop]; omega
theorem P_fld (n : Nat) (r : List Tok) (f : FldA α) (i : Nat) (hf : fieldOk f = true) (h : T.drop i = fldTok f n ++ r) : fldT T ⟨i, 0⟩ = (f.1, f.2.1, n) ∧ ∃ j, fldS T ⟨i, 0⟩ = ⟨j, 0⟩ ∧ T.drop j = r ∧ isP T ⟨i, 0⟩ 1 [] = true := by
  unfold fieldOk at hf
  simp only [Bool.and_eq_true] at hf
  cases hv : f.2.1 with
  | nil => rw [hv] at hf; simp at hf
  | cons v vs =>
    have h0 : T.drop i = (1, f.1, n) :: (valTok v n ++ (comTok vs n ++ (4, [59], n) :: r)) := by rw [h]; unfold fldTok; rw [hv]; simp
    obtain ⟨h1, h2, h3⟩ := P_take (text := []) h0 (by decide) rfl
    have hd := (tk_drop h0).2.2
    have hv2 : ∃ c m, (c == [47]) = false ∧ comTok vs n ++ (4, [59], n) :: r = (4, c, m) :: (comTok vs n ++ (4, [59], n) :: r).tail := by
      cases vs with
      | nil => exact ⟨[59], n, rfl, rfl⟩
      | cons y ys => exact ⟨[44], n, rfl, rfl⟩
    obtain ⟨c, m, hc, hr⟩ := hv2
    obtain ⟨v1, j, v2, v3⟩ := P_val hc hr hd
    have hlen : vs.length ≤ T.length := by
      have h4 := drop_len v3
      have h5 := comTok_len n vs
      rw [List.length_append] at h4
      omega
    obtain ⟨c1, j2, c2, c3⟩ := P_com n r vs T.length j hlen v3
    obtain ⟨g1, g2, g3⟩ := P_take (text := [59]) c3 (by decide) rfl
    unfold fldT fldS
    rw [h3, v1, v2, c1, c2, h1, g3]
    exact ⟨rfl, _, rfl, (tk_drop c3).2.2, P_yes h0 rfl⟩
/-- Fields, their lines laid. -/
def relF : List (FldA α) → Nat → List Fld
  | [], _ => []
  | f :: fs, n => (f.1, f.2.1, n) :: relF fs (n + 1)
theorem P_fs (m : Nat) (r : List Tok) : ∀ (fs : List (FldA α)) (f i n : Nat), fs.length ≤ f → fs.all fieldOk = true → T.drop i = fsTok fs n ++ (4, [125], m) :: r → fsT T f ⟨i, 0⟩ = relF fs n ∧ ∃ j, fsS T f ⟨i, 0⟩ = ⟨j, 0⟩ ∧ T.drop j = (4, [125], m) :: r := by
  intro fs
  induction fs with
  | nil =>
    intro f i n _ _ h
    have hp := P_not (kind := 1) (k := 4) (x := [125]) (n := m) (r := r) (T := T) (i := i) h [] (by decide)
    obtain ⟨e1, e2⟩ := fsT_no (f := f) hp
    exact ⟨e1, i, e2, h⟩
  | cons g fs ih =>
    intro f i n hf ha h
    obtain ⟨f', rfl⟩ : ∃ g, f = g + 1 := ⟨f - 1, by rw [List.length_cons] at hf; omega⟩
    rw [List.all_cons, Bool.and_eq_true] at ha
    have h0 : T.drop i = fldTok g n ++ (fsTok fs (n + 1) ++ (4, [125], m) :: r) := by rw [h]; show (fldTok g n ++ fsTok fs (n + 1)) ++ _ = _; simp
    obtain ⟨a1, j, a2, a3, a4⟩ := P_fld n _ g i ha.1 h0
    obtain ⟨e1, e2⟩ := fsT_yes (f := f') a4
    obtain ⟨i1, j2, i2, i3⟩ := ih f' j (n + 1) (by rw [List.length_cons] at hf; omega) ha.2 a3
    rw [a1, a2, i1] at e1
    rw [a2, i2] at e2
    exact ⟨e1, j2, e2, i3⟩
theorem fldTok_pos (f : FldA α) (n : Nat) : 1 ≤ (fldTok f n).length := by unfold fldTok; rw [List.cons_append, List.length_cons]; omega
theorem fsTok_len : ∀ (fs : List (FldA α)) (n : Nat), fs.length ≤ (fsTok fs n).length := by
  intro fs
  induction fs with
  | nil => intro n; exact Nat.le_refl _
  | cons f fs ih =>
    intro n
    show _ ≤ (fldTok f n ++ fsTok fs (n + 1)).length
    have := fldTok_pos f n
    have := ih (n + 1)
    rw [List.length_cons, List.length_append]
    omega
def relB : List (BlkA α) → Nat → List BlkP
  | [], _ => []
  | b :: bs, n => (b.1, b.2.1, relF b.2.2.1 (n + 1), n) :: relB bs (n + 2 + b.2.2.1.length)
theorem P_blk (n : Nat) (r : List Tok) (b : BlkA α) (i : Nat) (hb : blockOk b = true) (h : T.drop i = blkTok b n ++ r) : blkT T ⟨i, 0⟩ = (b.1, b.2.1, relF b.2.2.1 (n + 1), n) ∧ ∃ j, blkS T ⟨i, 0⟩ = ⟨j, 0⟩ ∧ T.drop j = r ∧ isP T ⟨i, 0⟩ 1 [] = true := by
  unfold blockOk at hb
  simp only [Bool.and_eq_true] at hb
  obtain ⟨m, hm⟩ : ∃ m, n + 1 + b.2.2.1.length = m := ⟨_, rfl⟩
  have h0 : T.drop i = (1, b.1, n) :: ((if b.2.1.isEmpty then [] else [(1, b.2.1, n)]) ++ ((4, [123], n) :: (fsTok b.2.2.1 (n + 1) ++ (4, [125], m) :: r))) := by rw [h]; unfold blkTok; rw [hm]; simp
  obtain ⟨h1, h2, h3⟩ := P_take (text := []) h0 (by decide) rfl
  have hd := (tk_drop h0).2.2
  have key : ∃ j, takeS T ⟨i + 1, 0⟩ 1 [] = ⟨j, 0⟩ ∧ (takeT T ⟨i + 1, 0⟩ 1 []).2.1 = b.2.1 ∧ T.drop j = (4, [123], n) :: (fsTok b.2.2.1 (n + 1) ++ (4, [125], m) :: r) := by
    cases hn : b.2.1 with
    | nil =>
      rw [hn] at hd
      have hd : T.drop (i + 1) = (4, [123], n) :: (fsTok b.2.2.1 (n + 1) ++ (4, [125], m) :: r) := hd
      have hp := P_not (kind := 1) hd [] (by decide)
      exact ⟨_, takeS_no hp, by rw [takeT_no hp]; rfl, hd⟩
    | cons c t =>
      rw [hn] at hd
      have hd : T.drop (i + 1) = (1, c :: t, n) :: ((4, [123], n) :: (fsTok b.2.2.1 (n + 1) ++ (4, [125], m) :: r)) := hd
      obtain ⟨g1, g2, g3⟩ := P_take (text := []) hd (by decide) rfl
      exact ⟨_, g2, by rw [g1], (tk_drop hd).2.2⟩
  obtain ⟨j, k1, k2, k3⟩ := key
  obtain ⟨g1, g2, g3⟩ := P_take (text := [123]) k3 (by decide) rfl
  have hd3 := (tk_drop k3).2.2
  have hlen : b.2.2.1.length ≤ T.length := by
    have h4 := drop_len hd3
    have h5 := fsTok_len b.2.2.1 (n + 1)
    rw [List.length_append] at h4
    omega
  obtain ⟨f1, j2, f2, f3⟩ := P_fs m r b.2.2.1 T.length (j + 1) (n + 1) hlen hb.2 hd3
  obtain ⟨q1, q2, q3⟩ := P_take (text := [125]) f3 (by decide) rfl
  unfold blkT blkS blk3
  rw [h3, k1, k2, g3, f1, f2, h1, q3]
  exact ⟨rfl, _, rfl, (tk_drop f3).2.2, P_yes h0 rfl⟩
theorem P_bs (m : Nat) (r : List Tok) : ∀ (bs : List (BlkA α)) (f i n : Nat), bs.length ≤ f → bs.all blockOk = true → T.drop i = bsTok bs n ++ (4, [125], m) :: r → bsT T f ⟨i, 0⟩ = relB bs n ∧ ∃ j, bsS T f ⟨i, 0⟩ = ⟨j, 0⟩ ∧ T.drop j = (4, [125], m) :: r := by
  intro bs
  induction bs with
  | nil =>
    intro f i n _ _ h
    have hp := P_not (kind := 1) (k := 4) (x := [125]) (n := m) (r := r) (T := T) (i := i) h [] (by decide)
    obtain ⟨e1, e2⟩ := bsT_no (f := f) hp
    exact ⟨e1, i, e2, h⟩
  | cons g bs ih =>
    intro f i n hf ha h
    obtain ⟨f', rfl⟩ : ∃ g, f = g + 1 := ⟨f - 1, by rw [List.length_cons] at hf; omega⟩
    rw [List.all_cons, Bool.and_eq_true] at ha
    have h0 : T.drop i = blkTok g n ++ (bsTok bs (n + 2 + g.2.2.1.length) ++ (4, [125], m) :: r) := by rw [h]; show (blkTok g n ++ bsTok bs _) ++ _ = _; simp
    obtain ⟨a1, j, a2, a3, a4⟩ := P_blk n _ g i ha.1 h0
    obtain ⟨e1, e2⟩ := bsT_yes (f := f') a4
    obtain ⟨i1, j2, i2, i3⟩ := ih f' j _ (by rw [List.length_cons] at hf; omega) ha.2 a3
    rw [a1, a2, i1] at e1
    rw [a2, i2] at e2
    exact ⟨e1, j2, e2, i3⟩
theorem bsTok_len : ∀ (bs : List (BlkA α)) (n : Nat), bs.length ≤ (bsTok bs n).length := by
  intro bs
  induction bs with
  | nil => intro n; exact Nat.le_refl _
  | cons f bs ih =>
    intro n
    show _ ≤ (blkTok f n ++ bsTok bs _).length
    have h1 : 1 ≤ (blkTok f n).length := by unfold blkTok; simp
    have := ih (n + 2 + f.2.2.1.length)
    rw [List.length_cons, List.length_append]
    omega
/-- A definition, its lines those of the layout. -/
def reline (s : SrcA α) : Src := (s.1, relB s.2 2)
theorem P_src (s : SrcA α) (h : srcOk s = true) : srcT (srcTok s) = reline s ∧ (srcS (srcTok s)).f = 0 ∧ (srcS (srcTok s)).i + 1 = (srcTok s).length := by
  unfold srcOk at h
  rw [Bool.and_eq_true] at h
  obtain ⟨m, hm⟩ : ∃ m, endLine s.2 2 = m := ⟨_, rfl⟩
  have h0 : (srcTok s).drop 0 = (1, elW, 1) :: (3, s.1, 1) :: (4, [123], 1) :: (bsTok s.2 2 ++ (4, [125], m) :: [(5, [], m + 1)]) := by
    rw [List.drop_zero]
    unfold srcTok headTok
    rw [hm]
    simp [elW]
  generalize srcTok s = T at h0
  obtain ⟨a1, a2, a3⟩ := P_take (text := elW) h0 (by decide) (by simp)
  have d1 := (tk_drop h0).2.2
  obtain ⟨b1, b2, b3⟩ := P_take (text := []) d1 (by decide) rfl
  have d2 := (tk_drop d1).2.2
  obtain ⟨c1, c2, c3⟩ := P_take (text := [123]) d2 (by decide) rfl
  have d3 := (tk_drop d2).2.2
  have hlen : s.2.length ≤ T.length := by
    have h4 := drop_len d3
    have h5 := bsTok_len s.2 2
    rw [List.length_append] at h4
    omega
  obtain ⟨f1, j, f2, f3⟩ := P_bs m [(5, [], m + 1)] s.2 T.length 3 2 hlen h.2 d3
  obtain ⟨q1, q2, q3⟩ := P_take (text := [125]) f3 (by decide) rfl
  have d4 := (tk_drop f3).2.2
  have hp := P_yes (text := []) d4 rfl
  have e5 : needS T ⟨j + 1, 0⟩ 5 [] = ⟨j + 1, 0⟩ := by rw [needS_yes hp]; rfl
  unfold srcT srcS srcC srcA
  rw [a3, b3, c3, f1, f2, b1, q3, e5]
  refine ⟨rfl, rfl, ?_⟩
  have hl : (T.drop (j + 1)).length = 1 := by rw [d4]; rfl
  rw [List.length_drop] at hl
  show j + 1 + 1 = T.length
  omega
end

end Go.Proofs.Ythdcgplocdehjaa
