import Derived.Test.YteobjelenfjifaaDoorNz
import Derived.Test.YteobjelenfjifaaDoorNy0
namespace Go.Proofs.YteobjelenfjifaaDoor
open Go.RowKit Go.Proofs.Kit Go.Proofs.Nums

theorem dig_val (r : Nat) : Value.int .u8 ((48 + (r : Int) % 10)) = byteV (digB (r % 10)) := by
  unfold byteV
  rw [digB_nat (Nat.mod_lt _ (by omega))]
  congr 1

theorem erB : ElemRow Tryd.prog 66 5 (.int .u8 0) 1 1 := ⟨Tryd.underlying66, by kernel_rfl, rfl, by decide⟩

theorem NatAtSame {w w' : World} {v : Value} {l : List Nat} (h : NatAt w v l) (hh : ∀ b, v.ownBlock = some b → w'.heap[b]? = w.heap[b]?) : NatAt w' v l := ⟨RowAt.same h.1 hh, h.2⟩

theorem digs_snoc (ds : List Nat) (d : Nat) : ((ds ++ [d]).map digB).map byteV = ((ds.map digB).map byteV) ++ [byteV (digB d)] := by simp

set_option maxRecDepth 1000000 in
set_option maxHeartbeats 1000000 in
theorem text_any (v : Value) (a : List Nat) (w : World) (ha : NatAt w v a) (hla : a.length ≤ 1000) :
    Calls Tryd.prog 30 #[v] w fun e w' => e = .returned (.string ⟨(decB (val a)).toArray⟩) ∧ Below w.heap.size w w' := by
  obtain ⟨N, hN⟩ : ∃ N, val a = N := ⟨_, rfl⟩
  obtain ⟨E, hE⟩ : ∃ E, 32 * a.length = E := ⟨_, rfl⟩
  have hNE : Hid (N < 2 ^ E) := Lib.hid (by rw [← hN, ← hE, ← base_pow]; exact val_lt a ha.2)
  have hlim := limbs_len_le (val a) a.length (val_lt a ha.2)
  have ct := trim_any v a w ha
  rw [hN] at ct hlim ⊢
  have CT := Lib.hid ct
  by_cases h0 : N = 0
  · subst h0
    rw [limbs_zero] at ct
    have CT := Lib.hid ct
    clear ct ha hN hla hlim
    go_enter Tryd.func30, Tryd.ntmps30
    go_wp2_with (go_at_call 40; refine CT.out.mono ?_; rintro e w1 ⟨v1, rfl, hv1, rfl⟩; obtain ⟨p1, c1, rfl⟩ := hv1.shape; clear hv1)
    go_ret
    exact ⟨rfl, Below.refl _ _⟩
  · have hne : limbs N ≠ [] := fun h => h0 (limbs_eq_nil.1 h)
    have hpos : 0 < (limbs N).length := List.length_pos_iff.2 hne
    have hzz : (((limbs N).length : Int) == 0) = false := by rw [beq_eq_false_iff_ne]; omega
    have hEE : E ≤ 32000 := by omega
    clear ct ha hN
    go_enter Tryd.func30, Tryd.ntmps30
    go_wp2_with (go_at_call 40; refine CT.out.mono ?_; rintro e w1 ⟨v1, rfl, hv1, rfl⟩; obtain ⟨p1, c1, rfl⟩ := hv1.shape)
    clear CT
    go_loopw [0, 3] (fun av ov wr => ∃ m k : Nat, ∃ x ds : List Nat, k ≤ E + 9 ∧ (m = 0 → 0 < k) ∧ x.length ≤ a.length ∧ Hid (limbs m = x) ∧ (∃ c p, ov = .slice p k c) ∧ NatAt wr av x ∧ wr.ownsRow w.heap.size 5 1 ov k ((ds.map digB).map byteV) ∧ Below w.heap.size w wr ∧
        Hid (ds.length = k ∧ Dig ds ∧ dval ds + 10 ^ k * m = N)) (fun _ ov _ => match ov with | .slice _ n _ => E + 9 - n | _ => 0)
    case atStart => exact ⟨N, 0, _, [], by omega, fun h => absurd h h0, hlim, Lib.hid rfl, ⟨_, _, rfl⟩, hv1, World.ownsRow_nil _ _ _ _, Below.refl _ _, Lib.hid ⟨rfl, Dig.nil, by simp [dval]⟩⟩
    case round =>
      obtain ⟨m, k, x, ds, hk, hmk, hn, hnm, ⟨oc, op, rfl⟩, hav, hown, hbel, hP⟩ := hrel
      obtain ⟨pa, ca, rfl⟩ := hav.shape
      have HAV := Lib.hid hav
      clear hav
      by_cases hm : m = 0
      · subst hm
        have hk0 := hmk rfl
        have hn0 : x = [] := by rw [← hnm.out, limbs_zero]
        subst hn0
        rcases ownsRow_cases hown with ⟨_, h1⟩ | ⟨g, cap, hs, hb1, _, _⟩
        · omega
        simp only [Value.slice.injEq] at hs
        obtain ⟨rfl, _, rfl⟩ := hs
        have hOB : OwnB wr w.heap.size g k oc (ds.map digB) := ⟨by rw [List.length_map]; exact hP.out.1, hown⟩
        have HT := Lib.hid (text_end hP.out.2.1 hP.out.2.2 h0)
        have HOB := Lib.hid hOB
        have TL := Lib.hid (fun w4 => tl_any ⟨((ds.map digB).reverse).toArray⟩ w4 (by rw [Lib.size_eq]; show ((ds.map digB).reverse).length ≤ _; rw [List.length_reverse, List.length_map, hP.out.1]; omega))
        clear hOB hown
        go_wp2_with (first
          | (go_at_call 48; refine (rev_any _ _ _ _ _ _ HOB.out (by omega) hbel.size).mono ?_; rintro e w4 ⟨rfl, hO4, hb4⟩; have hconv := string_of_owned 66 9 Tryd.underlying66 Tryd.underlying5 Tryd.underlying9 (P := Tryd.prog) hO4.2; clear hO4)
          | (go_at_call 49; refine (TL.out _).mono ?_; rintro e w5 ⟨rfl, hb5⟩))
        go_ret
        exact ⟨by rw [← HT.out]; rfl, (hbel.trans hb4).trans (hb5.mono (hbel.trans hb4).size)⟩
      · have hkE : k < E := ten_lt (Nat.pos_of_ne_zero hm) hP.out.2.2 hNE.out
        have hn1 : 0 < x.length := by rw [← hnm.out]; exact List.length_pos_iff.2 fun h => hm (limbs_eq_nil.1 h)
        have sd := sdiv_any _ x 1000000000 wr HAV.out (by omega) (by omega) (by omega)
        rw [show ((1000000000 : Nat) : Int) = 1000000000 by omega, show val x = m by rw [← hnm.out, val_limbs]] at sd
        obtain ⟨r0, hr0⟩ : ∃ r0, m % 1000000000 = r0 := ⟨_, rfl⟩
        obtain ⟨M, hM⟩ : ∃ M, m / 1000000000 = M := ⟨_, rfl⟩
        have hr9 : r0 < 1000000000 := by omega
        rw [hr0, hM] at sd
        have SD := Lib.hid sd
        have HR9 := Lib.hid hr9
        have HMM : Hid (m = r0 + 10 ^ 9 * M) := Lib.hid (by rw [← hr0, ← hM]; exact chunk_eq m)
        clear sd hr0 hM hr9
        go_wp2_with (first
          | (go_at_call 47; ((with_reducible refine SD.out.mono ?_); rintro e w4 ⟨v4, rfl, ⟨q, hq, hqv, hql, hob, hsz⟩, hb4⟩))
          | (go_at_call 40; refine (trim_at _ _ _ hq).mono ?_; rintro e w5 ⟨v5, rfl, hv5, rfl, hv5b⟩))
        rw [hqv] at hv5
        have hML : (limbs M).length ≤ a.length := by
          have h1 := limbs_len_le M q.length (by rw [← hqv]; exact val_lt q hq.2)
          omega
        obtain ⟨y, hy⟩ : ∃ y, limbs M = y := ⟨_, rfl⟩
        rw [hy] at hv5 hML
        have HY := Lib.hid hy
        have HV5 := Lib.hid hv5
        clear hy hv5 hq hqv hql SD HAV hnm hmk
        have hown4 := ownsRow_below hown hb4
        have hbel4 := hbel.trans (hb4.mono hbel.size)
        have HK4 := hbel4.size
        obtain ⟨B0, hB0⟩ : ∃ B0, (Value.slice op k oc).ownBlock = B0 := ⟨_, rfl⟩
        have HB0 : Hid (∀ b, v5.ownBlock = some b → b < w4.heap.size ∧ B0 ≠ some b) := Lib.hid (by
          intro b hb
          rcases hv5b with h1 | h1
          · rw [h1] at hb; simp at hb
          · rw [h1, hob] at hb
            simp only [Option.some.injEq] at hb
            subst hb
            refine ⟨hsz, fun h2 => ?_⟩
            rw [h2] at hB0
            exact Nat.lt_irrefl _ (hown.lt _ hB0).2)
        clear hv5b hob hsz
        go_loopw [3, 5, 21] (fun ov rv jv wr => ∃ j r : Nat, ∃ ds' : List Nat, j ≤ 9 ∧ rv = .int .u64 r ∧ jv = .int .i64 j ∧ r < 1000000000 ∧ wr.ownsRow w.heap.size 5 1 ov (k + j) ((ds'.map digB).map byteV) ∧ Hid ((ov.ownBlock = B0 ∨ ∃ g, ov.ownBlock = some g ∧ w4.heap.size ≤ g) ∧ w4.heap.size ≤ wr.heap.size ∧ ∀ b, b < w4.heap.size → B0 ≠ some b → wr.heap[b]? = w4.heap[b]?) ∧ Below w.heap.size w wr ∧
            Hid (ds'.length = k + j ∧ Dig ds' ∧ dval ds' + 10 ^ (k + j) * (r + 10 ^ (9 - j) * M) = N ∧ r < 10 ^ (9 - j))) (fun _ _ j _ => 9 - (intOf j).toNat)
        case atStart => exact ⟨0, r0, ds, by omega, rfl, rfl, HR9.out, hown4, Lib.hid ⟨.inl hB0, Nat.le_refl _, fun _ _ _ => rfl⟩, hbel4, Lib.hid ⟨hP.out.1, hP.out.2.1, by rw [← hP.out.2.2, HMM.out]; rfl, HR9.out⟩⟩
        case round =>
          obtain ⟨j, r, ds', hj, rfl, rfl, hr9, hown', hb4', hbel', hP'⟩ := hrel
          by_cases hj9 : j < 9
          · obtain ⟨p, hp⟩ : ∃ p, 9 - j = p + 1 := ⟨8 - j, by omega⟩
            have hT : Hid ((ds' ++ [r % 10]).length = k + (j + 1) ∧ Dig (ds' ++ [r % 10]) ∧ dval (ds' ++ [r % 10]) + 10 ^ (k + (j + 1)) * (r / 10 + 10 ^ (9 - (j + 1)) * M) = N ∧ r / 10 < 10 ^ (9 - (j + 1))) := by
              have h := hP'.out
              rw [hp] at h
              rw [show 9 - (j + 1) = p by omega]
              exact Lib.hid ⟨by rw [List.length_append, h.1]; rfl, h.2.1.snoc (Nat.mod_lt _ (by omega)), text_step h.1 h.2.2.1, div10_lt h.2.2.2⟩
            go_wp2_with (at_builtin; go_must (refine append_fresh erB rfl rfl hown' rfl rfl rfl (by simp [Value.oneCell']) (by omega) (by omega) hbel'.size ?_); intro v' w1 hown1 hgr1 hb1 hne1 hfr1)
            have HF : Hid ((v'.ownBlock = B0 ∨ ∃ g, v'.ownBlock = some g ∧ w4.heap.size ≤ g) ∧ w4.heap.size ≤ w1.heap.size ∧ ∀ b, b < w4.heap.size → B0 ≠ some b → w1.heap[b]? = w4.heap[b]?) := by
              obtain ⟨f1, f2, f3⟩ := hb4'.out
              refine Lib.hid ⟨?_, Nat.le_trans f2 hb1.size, fun b h1 h2 => ?_⟩
              · rcases hfr1 with h1 | ⟨g, h1, h2⟩
                · rw [h1]; exact f1
                · exact .inr ⟨g, h1, by omega⟩
              · rw [hgr1.block b (by omega) ?_]
                · exact f3 b h1 h2
                · rcases f1 with h3 | ⟨g, h3, h4⟩
                  · rw [h3]; exact fun h => h2 h.symm
                  · rw [h3]; intro h; simp at h; omega
            clear hgr1 hfr1 hne1
            go_roundw
            case rel =>
              refine ⟨j + 1, r / 10, ds' ++ [r % 10], by omega, by go_num, by go_num, by omega, ?_, HF, hbel'.trans hb1, hT⟩
              rw [digs_snoc, ← dig_val]
              exact hown1
            case measure => simp [intOf] <;> omega
          · obtain rfl : j = 9 := by omega
            have h := hP'.out
            have hr0 : r = 0 := by
              have := h.2.2.2
              simp at this; exact this
            subst hr0
            rcases ownsRow_cases hown' with ⟨_, h1⟩ | ⟨g, cap, hs, hb1, _, _⟩
            · omega
            have HOWN := Lib.hid hown'
            clear hown'
            subst hs
            go_wp2_with fail
            go_roundw
            case rel =>
              exact ⟨M, k + 9, y, ds', by omega, fun _ => by omega, hML, HY, ⟨_, _, rfl⟩, NatAtSame HV5.out (fun b hb => hb4'.out.2.2 b (HB0.out b hb).1 (HB0.out b hb).2), HOWN.out, hbel', Lib.hid ⟨h.1, h.2.1, by have := h.2.2.1; simpa using this⟩⟩
            case measure =>
              show E + 9 - (k + 9) < E + 9 - k
              omega

end Go.Proofs.YteobjelenfjifaaDoor
