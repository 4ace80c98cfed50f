import Derived.Test.YtcjgilfbcoadjaaLa
import Derived.Test.YtcjgilfbcoadjaaPm
namespace Go.Proofs.Ytcjgilfbcoadjaa
open Go.RowKit Go.Proofs.Kit

theorem lex_len : ∀ (f line : Nat) (l : List UInt8) (A : List Tok), lexL f line l = .ok A → A.length ≤ l.length + 1 := by
  intro f
  induction f with
  | zero => intro line l A h; simp [lexL] at h
  | succ f ih =>
    intro line l A h
    unfold lexL at h
    split at h
    · simp at h; rw [← h]; simp
    · cases ho : nextL (l.drop (skipF false l)) with
      | none => rw [ho] at h; simp at h
      | some x =>
        obtain ⟨k, t, m⟩ := x
        rw [ho] at h
        simp only [] at h
        have h1 := nextL_len ho
        cases hr : lexL f (line + List.count 10 (List.take (skipF false l) l)) (List.drop m (List.drop (skipF false l) l)) with
        | error e => rw [hr] at h; simp [Except.map] at h
        | ok B =>
          rw [hr] at h; simp [Except.map] at h
          have := ih _ _ _ hr
          rw [← h, List.length_cons]
          rw [List.length_drop] at this
          rw [List.length_drop] at this h1
          omega

theorem bel2 {w w1 w2 : World} (h1 : Below w.heap.size w w1) (h2 : Below w1.heap.size w1 w2) : Below w.heap.size w w2 := h1.trans (h2.mono h1.size)
theorem bel3 {w w1 w2 w3 w4 : World} (h1 : Below w.heap.size w w1) (h2 : Below w1.heap.size w1 w2) (h3 : Below w2.heap.size w2 w3) (h4 : Below w3.heap.size w3 w4) : Below w.heap.size w w4 :=
  bel2 (bel2 (bel2 h1 h2) h3) h4

set_option maxHeartbeats 2000000 in
theorem walk_LexAll (a : ByteArray) (ha : a.size ≤ maxLen) (w : World) :
    Calls Try.prog 3 #[.string a] w fun e w' => e = .returned (.bool true) ∧ Below w.heap.size w w' := by
  obtain ⟨S, hS⟩ : ∃ S, S = a.extract 0 (min a.size 300) := ⟨_, rfl⟩
  have hs : S.size ≤ 300 := by rw [hS]; exact short_size a 300
  have HS := Lib.hid hS
  have H2 : Hid (S.size ≤ 20000) := Lib.hid (by omega)
  have HQ : Hid (lexL (S.size + 1) 1 S.data.toList = refL (S.size + 1) 1 S.data.toList) := Lib.hid (by rw [Lib.size_eq]; exact lex_all _)
  clear hS
  go_enter Try.func3, Try.ntmps3
  cases hr : refL (S.size + 1) 1 S.data.toList with
  | error n =>
    have HR := Lib.hid hr
    clear hr
    go_wp2_with (first
      | (go_at_call 9; refine (short_any _ 300 _ ha (by omega)).mono ?_; rintro e w1 ⟨rfl, rfl⟩; rw [← HS.out])
      | (go_at_call 10; refine (all_any _ _ H2.out).mono ?_; rw [HQ.out, HR.out]; rintro e w1 ⟨rfl, hb1⟩)
      | (go_at_call 11; refine (rall_any _ _ H2.out).mono ?_; rw [HR.out]; rintro e w2 ⟨rfl, hb2⟩; have f0 := cell_new hb2 (off := 0) rfl; have f1 := cell_new hb2 (off := 1) rfl)
      | (go_at_call 12; refine (awake_any _).mono ?_; rintro e w3 ⟨rfl, hb3⟩; have g0 := cell_on hb3 f0; have g1 := cell_on hb3 f1; have k0 := cell_new hb3 (off := 0) rfl; have k1 := cell_new hb3 (off := 1) rfl)
      | (go_at_call 13; refine (eq_any [] [] _ _ true 0 0 _ (World.ownsRow_nil _ _ _ _) (World.ownsRow_nil _ _ _ _) (by simp) (by simp)).mono ?_; rintro e w4 ⟨rfl, hb4⟩))
    go_ret
    exact ⟨rfl, bel3 hb1 (below_on hb2) (below_on hb3) hb4⟩
  | ok A =>
    have hl : A.length ≤ 301 := by
      have := lex_len _ _ _ _ (HQ.out.trans hr)
      rw [← Lib.size_eq] at this; omega
    have HR := Lib.hid hr
    clear hr
    go_wp2_with (first
      | (go_at_call 9; refine (short_any _ 300 _ ha (by omega)).mono ?_; rintro e w1 ⟨rfl, rfl⟩; rw [← HS.out])
      | (go_at_call 10; refine (all_any _ _ H2.out).mono ?_; rw [HQ.out, HR.out]; rintro e w1 ⟨⟨v1, rfl, hown1⟩, hb1⟩)
      | (go_at_call 11; refine (rall_any _ _ H2.out).mono ?_; rw [HR.out]; rintro e w2 ⟨⟨v2, rfl, hown2⟩, hb2⟩; have f0 := cell_new hb2 (off := 0) rfl; have f1 := cell_new hb2 (off := 1) rfl; have hown1' := ownsRow_on hb2 hown1)
      | (go_at_call 12; refine (awake_any _).mono ?_; rintro e w3 ⟨rfl, hb3⟩; have g0 := cell_on hb3 f0; have g1 := cell_on hb3 f1; have k0 := cell_new hb3 (off := 0) rfl; have k1 := cell_new hb3 (off := 1) rfl; have o1 := ownsRow_on hb3 hown1'; have o2 := ownsRow_on hb3 hown2)
      | (go_at_call 13; refine (eq_any A A _ _ true _ _ _ o1 o2 (by omega) (by omega)).mono ?_; rw [eqT_self]; rintro e w4 ⟨rfl, hb4⟩))
    go_ret
    exact ⟨rfl, bel3 hb1 (below_on hb2) (below_on hb3) hb4⟩

end Go.Proofs.Ytcjgilfbcoadjaa
