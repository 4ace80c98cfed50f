import Derived.Test.YtcjgilfbcoadjaaWh
import Derived.Test.YtcjgilfbcoadjaaWg
namespace Go.Proofs.Ytcjgilfbcoadjaa
open Go.RowKit Go.Proofs.Kit

theorem ret_str {a b : ByteArray} (h : a = b) : Ending.returned (.string a) = .returned (.string b) := by rw [h]

set_option maxHeartbeats 1000000 in
theorem short_any (s : ByteArray) (m : Nat) (w : World) (hs : s.size ≤ maxLen) (hm : m ≤ 1000000) :
    Calls Try.prog 9 #[.string s, .int .i64 m] w fun e w' => e = .returned (.string (s.extract 0 (min s.size m))) ∧ w = w' := by
  unfold maxLen at hs
  go_enter Try.func9, Try.ntmps9
  go_wp2_with fail
  go_ret
  exact ⟨ret_str (by rw [show (min (s.size : Int) (m : Int)).toNat = min s.size m by omega]), rfl⟩

theorem awake_tokens : lexL 8 1 [100, 111, 116, 115, 32, 50, 59] = .ok [(1, [100, 111, 116, 115], 1), (2, [50], 1), (4, [59], 1), (5, [], 1)] := by rfl
theorem awake_bare : bareL [49, 47, 50, 48] = true := by rfl

set_option maxHeartbeats 2000000 in
theorem awake_any (w : World) : Calls Try.prog 12 #[] w fun e w' => e = .returned (.bool true) ∧ Below w.heap.size w w' := by
  have HA : Hid (∀ (w : World) (e : Ending) (w' : World), ARet w.heap.size (lexL ((⟨#[100, 111, 116, 115, 32, 50, 59]⟩ : ByteArray).size + 1) 1 (⟨#[100, 111, 116, 115, 32, 50, 59]⟩ : ByteArray).data.toList) e w' →
    ∃ v, e = .returned (.tuple #[v, .agg #[.int .i64 0, .int .i64 0]]) ∧ w'.ownsRow w.heap.size 38 3 v 4 [.int .i64 1, .string ⟨#[100, 111, 116, 115]⟩, .int .i64 1, .int .i64 2, .string ⟨#[50]⟩, .int .i64 1, .int .i64 4, .string ⟨#[59]⟩, .int .i64 1, .int .i64 5, .string ⟨#[]⟩, .int .i64 1]) := by
    intro w e w' h
    rw [show ((⟨#[100, 111, 116, 115, 32, 50, 59]⟩ : ByteArray).size + 1) = 8 from rfl, show (⟨#[100, 111, 116, 115, 32, 50, 59]⟩ : ByteArray).data.toList = [100, 111, 116, 115, 32, 50, 59] from rfl, awake_tokens] at h
    exact h
  go_enter Try.func12, Try.ntmps12
  go_wp2_with (first
    | (go_at_call 10; refine (all_any _ _ (by show 7 ≤ _; omega)).mono ?_; rintro e w1 ⟨hr, hb⟩; obtain ⟨v, rfl, hown⟩ := HA.out _ _ _ hr; obtain ⟨g, cap, rfl⟩ := Go.Joins.ownsRow_form hown (by omega); have hk : w1.cell? ⟨g, 3, none⟩ = some (.int .i64 2) := hown.cellAt 3 (by omega); have hg := (hown.lt g rfl).2; clear hr)
    | (go_at_call 14; refine (bare_any _ _ (by show 4 ≤ _; unfold maxLen; omega)).mono ?_; rw [show (⟨#[49, 47, 50, 48]⟩ : ByteArray).data.toList = [49, 47, 50, 48] from rfl, awake_bare]; rintro e w2 ⟨rfl, hb2⟩))
  go_ret
  refine ⟨rfl, ?_⟩
  exact (hb.alloc hb.size _).trans (hb2.mono (by have := hb.size; simp; omega))

end Go.Proofs.Ytcjgilfbcoadjaa
