/- electionmake.Ints and Perm. -/
import Derived.Test.YtlhkjkhbgebgiaaV5
import Derived.Deep.AppendLies
import Derived.Deep.RegionLaw
namespace Go.Proofs.Kit
open Go.RowKit

/-- append(s, x...), at a step of a region that draws; x a row that is read. -/
theorem step_append_read {P : Program} {t e : TypeId} {z : Value} {bytes : Nat} (E : ElemRow P t e z 1 bytes)
    {ops : Array Oper} {o : Oper} {a : Act} {K : Act → World → Prop} {Q : Exit → Act → World → Prop} {E0 : Prop} {w : World} (hgd : o.guard = none) {s x : Operand}
    (ho : o.op = .call { callee := .builtin .append, args := #[s, x], argTypes := #[t, t] })
    {base : Nat} {v : Value} {n : Nat} {xs : List Value} (hown : w.ownsRow base e 1 v n xs)
    (hs : a.eval s = v) {xv : Value} {cs : List Value} (hr : RowAt w xv cs) (hx : a.eval x = xv)
    (h1 : ∀ u ∈ cs, u.oneCell' = true) (hn : (n + cs.length) * bytes ≤ 140737488355328) (hn' : n + cs.length ≤ 9223372036854775807) (hbase : base ≤ w.heap.size)
    (h : ∀ v' w', w'.ownsRow base e 1 v' (n + cs.length) (xs ++ cs) → Below base w w' → K (a.put o.dst v') w') :
    if Region.wanted o (yielded ops a.tmps) = true then Oper.wp P o a w K Q else E0 := by
  have hw : Region.wanted o (yielded ops a.tmps) = true := by simp [Region.wanted, hgd]
  rw [if_pos hw]
  obtain ⟨i, hi, hz0, hz1, hz2⟩ := info_parts E.hi
  obtain ⟨p, cap, rfl, c1, c2, c3, c4⟩ := hr
  cases p with
  | none =>
    have hc := c3 rfl
    subst hc
    have hl : cs = [] := List.eq_nil_of_length_eq_zero (by omega)
    subst hl
    have hrun := run_append_owned_none (P := P) w base t o.type e i 1 E.ht hi v n xs hown
    unfold Oper.wp
    have hx' : a.eval x = .slice none 0 0 := hx
    simp [execOp, ho, resolve, invoke, builtin, hs, hx', hrun, Result.andThen]
    exact h v w (by simpa using hown) (Below.refl _ _)
  | some q =>
    refine wp_append_own w s x t ho base e i z 1 bytes E.ht hi hz0 hz1 hz2 E.hzs E.hsz v n xs hs hown q cs.length cap cs hx (by rw [Nat.mul_one]) (c4 q rfl) h1 (by unfold maxLen; omega) hn hbase fun v' w' h2 h3 _ => ?_
    exact h v' w' h2 ((Below.refl base w).grown h3 hbase fun k hk => (hown.lt k hk).1)

end Go.Proofs.Kit
namespace Go.Proofs.Ytlhkjkhbgebgiaa
open Go.RowKit Go.Proofs.Kit Go.Proofs.Nums

theorem RowAt.dropK {w : World} {b off cap n : Nat} {cs : List Value} (h : RowAt w (.slice (some ⟨b, off, none⟩) n cap) cs) (k : Nat) (hk : k ≤ cs.length) : RowAt w (.slice (some ⟨b, off + k, none⟩) (n - k) (cap - k)) (cs.drop k) := by
  obtain ⟨p, cap', e, h1, h2, h3, h4⟩ := h
  simp only [Value.slice.injEq] at e
  obtain ⟨rfl, rfl, rfl⟩ := e
  refine ⟨_, _, by rw [List.length_drop], by rw [List.length_drop]; omega, by omega, fun h => by simp at h, fun q hq i u hi => ?_⟩
  obtain rfl := Option.some.inj hq
  rw [List.getElem?_drop] at hi
  have := h4 _ rfl (k + i) u hi
  rw [Addr.add_lit] at this ⊢
  rw [Nat.add_assoc]
  exact this

theorem erI : ElemRow Try.prog 22 3 (.int .i64 0) 1 8 := ⟨Try.underlying22, by kernel_rfl, rfl, by decide⟩
theorem ints_one (l : List Int) : ∀ u ∈ l.map (Value.int .i64), u.oneCell' = true := fun u hu => by
  obtain ⟨z, _, rfl⟩ := List.mem_map.1 hu
  rfl

set_option maxHeartbeats 1000000 in
theorem ints_c {v : Value} {l : List Int} {w : World} (h : IntsAt w v l) (k : Nat) (z : Int) (hz : z = (k : Int)) (_hk : k ≤ 1000000) :
    Calls Try.prog 18 #[v, .int .i64 z] w fun e w' => ∃ v', e = .returned v' ∧ IntsAt w' v' (l.take k) ∧ w = w' := by
  obtain ⟨p, c, rfl⟩ := h.shape
  have hcap : l.length ≤ c := by
    obtain ⟨p', cap, e, h1, _⟩ := h
    simp only [Value.slice.injEq] at e
    obtain ⟨_, _, rfl⟩ := e
    rw [List.length_map] at h1; exact h1
  obtain ⟨m, hm⟩ : ∃ m : Nat, min (l.length : Int) z = (m : Int) := ⟨min l.length k, by subst hz; omega⟩
  have hm2 : m = min l.length k := by subst hz; omega
  have b1 : (0 : Int) ≤ (m : Int) := by omega
  have b2 : (m : Int) ≤ (c : Int) := by omega
  have b3 : m ≤ c := by omega
  have HT : Hid (IntsAt w (.slice p m c) (l.take k)) := Lib.hid (by
    have e : l.take k = l.take m := by
      rw [hm2]
      rcases Nat.le_total l.length k with g | g
      · rw [Nat.min_eq_left g, List.take_of_length_le g, List.take_of_length_le (Nat.le_refl _)]
      · rw [Nat.min_eq_right g]
    rw [e]
    have hml : m ≤ l.length := by omega
    obtain ⟨p', cap, e2, g1, g2, g3, g4⟩ := h
    simp only [Value.slice.injEq] at e2
    obtain ⟨rfl, _, rfl⟩ := e2
    refine ⟨p, c, by rw [List.length_map, List.length_take, Nat.min_eq_left hml], by rw [List.length_map, List.length_take]; omega, g2, g3, fun q hq i u hi => g4 q hq i u ?_⟩
    rw [List.getElem?_map] at hi ⊢
    by_cases hlt : i < m
    · rw [List.getElem?_take_of_lt hlt] at hi; exact hi
    · rw [List.getElem?_eq_none (by rw [List.length_take]; omega)] at hi; simp at hi)
  clear h hz _hk hm2 hcap
  go_enter Try.func18, Try.ntmps18
  go_wp2_with fail
  go_ret
  exact ⟨_, rfl, HT.out, rfl⟩

end Go.Proofs.Ytlhkjkhbgebgiaa
