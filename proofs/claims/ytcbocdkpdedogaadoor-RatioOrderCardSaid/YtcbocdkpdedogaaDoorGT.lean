import Derived.Test.YtcbocdkpdedogaaDoorMA
import Derived.Test.YtcbocdkpdedogaaDoorMB
import Derived.RegionTactic
import Derived.ChangeAlike
import Derived.WalkSpells
namespace Go.Proofs.YtcbocdkpdedogaaDoor
open Go.RowKit Go.Proofs.Kit Go.Proofs.Nums

/-- A row of bytes of the call's own. -/
def OwnB (w : World) (base g n cap : Nat) (o : List UInt8) : Prop := o.length = n ∧ w.ownsRow base 5 1 (.slice (some ⟨g, 0, none⟩) n cap) n (o.map byteV)

theorem OwnB.cell {w : World} {base g n cap : Nat} {o : List UInt8} (h : OwnB w base g n cap o) {j : Nat} (hj : j < n) : w.cell? ⟨g, j, none⟩ = some (.int .u8 ((bat o j).toNat : Int)) := by
  rw [h.2.cellAt j (by omega), List.getElem?_map, List.getElem?_eq_getElem (by rw [h.1]; exact hj), bat_lt (by rw [h.1]; exact hj)]; rfl
theorem OwnB.free {w : World} {base g n cap : Nat} {o : List UInt8} (h : OwnB w base g n cap o) (j : Nat) : w.frozen? ⟨g, j, none⟩ = false := h.2.frozenAt j
theorem OwnB.put {w : World} {base g n cap : Nat} {o : List UInt8} (h : OwnB w base g n cap o) (j : Nat) (x : UInt8) :
    OwnB (w.setCell ⟨g, j, none⟩ (.int .u8 (x.toNat : Int))) base g n cap (o.set j x) ∧ Below base w (w.setCell ⟨g, j, none⟩ (.int .u8 (x.toNat : Int))) := by
  have hs := h.2.stored j (.int .u8 (x.toNat : Int))
  refine ⟨⟨by rw [List.length_set]; exact h.1, ?_⟩, ?_⟩
  · rw [List.map_set]; exact hs.1
  · exact (Below.refl base w).setCell (h.2.lt g rfl).1 _
theorem OwnB.drewN {w : World} {base g n cap : Nat} {o : List UInt8} (h : OwnB w base g n cap o) (k : Nat) : OwnB (w.drewN k) base g n cap o := ⟨h.1, ownsRow_below h.2 (below_drewN (Below.refl _ _) k)⟩

set_option maxHeartbeats 4000000 in
theorem rev_any (w : World) (base g n cap : Nat) (xs : List UInt8) (h : OwnB w base g n cap xs) (hn : n ≤ 1000000) (_hb : base ≤ w.heap.size) :
    Calls Tryd.prog 77 #[.slice (some ⟨g, 0, none⟩) n cap] w fun e w' => e = .returned (.tuple #[]) ∧ OwnB w' base g n cap xs.reverse ∧ Below base w w' := by
  have HXL := Lib.hid h.1
  have HR := Lib.hid (Rev.start xs)
  go_enter Tryd.func77, Tryd.ntmps77
  go_wp2_with fail
  go_loopw [2, 3] (fun i j wr => ∃ k : Nat, ∃ ys : List UInt8, k ≤ n ∧ i = .int .i64 k ∧ j = .int .i64 ((n : Int) - 1 - k) ∧ OwnB wr base g n cap ys ∧ Below base w wr ∧ Hid (Rev xs ys k)) (fun i _ _ => n - (intOf i).toNat)
  case atStart => exact ⟨0, xs, by omega, rfl, by go_num, h, Below.refl _ _, HR⟩
  case round =>
    obtain ⟨k, ys, hk, rfl, rfl, hO, hbel, hP⟩ := hrel
    by_cases hlt : 2 * k + 1 < n
    · obtain ⟨m, hm⟩ : ∃ m, n - 1 - k = m := ⟨_, rfl⟩
      rw [show ((n : Int) - 1 - (k : Int)) = (m : Int) by omega]
      have ck := hO.cell (j := k) (by omega)
      have cm := hO.cell (j := m) (by omega)
      have fk := hO.free k
      have fm := hO.free m
      have hne : k ≠ m := by omega
      have HO := Lib.hid hO
      clear hO
      go_wp2_with fail
      have hst := Rev.step hP.out (by rw [HXL.out]; exact hlt)
      rw [HXL.out, hm] at hst
      have HST := Lib.hid hst
      have hp1 := HO.out.put k (bat ys m)
      have hp2 := hp1.1.put m (bat ys k)
      have hp3 := hp2.1.drewN 1
      have hb3 := below_drewN (hbel.trans (hp1.2.trans hp2.2)) 1
      clear hst
      go_region
      all_goals go_wp2_with fail
      all_goals go_roundw
      case rel =>
        exact ⟨k + 1, _, by omega, by go_num, by go_num, hp3, hb3, HST⟩
      case measure => simp [intOf] <;> omega
    · go_wp2_with fail
      go_end0
      have e := Rev.done hP.out (by rw [HXL.out]; exact hlt)
      exact ⟨rfl, by rw [← e]; exact hO, hbel⟩

end Go.Proofs.YtcbocdkpdedogaaDoor

namespace Go.Proofs.YtcbocdkpdedogaaDoor
open Go.RowKit Go.Proofs.Kit Go.Proofs.Nums

theorem ext_from (s : ByteArray) (k : Nat) : (s.extract k s.size).data.toList = s.data.toList.drop k := by
  rw [Lib.extract_data, List.take_of_length_le (by rw [List.length_drop, ← Lib.size_eq]; omega)]

set_option maxHeartbeats 4000000 in
theorem tlb_any (s : ByteArray) (c : UInt8) (w : World) (hs : s.size ≤ 1000000) :
    Calls Tryd.prog 90 #[.string s, .int .u8 c.toNat] w fun e w' => e = .returned (.string ⟨(dropB c s.data.toList).toArray⟩) ∧ Below w.heap.size w w' := by
  go_enter Tryd.func90, Tryd.ntmps90
  go_wp2_with fail
  go_loopw [0] (fun i wr => ∃ t : ByteArray, i = .string t ∧ (∃ n, wr = w.drewN n) ∧ t.size ≤ 1000000 ∧ Hid (dropB c t.data.toList = dropB c s.data.toList)) (fun i _ => match i with | .string t => t.size | _ => 0)
  case atStart => exact ⟨s, rfl, ⟨0, rfl⟩, hs, Lib.hid rfl⟩
  case round =>
    obtain ⟨t, rfl, ⟨n, rfl⟩, ht, hP⟩ := hrel
    obtain ⟨l, hl⟩ : ∃ l, t.data.toList = l := ⟨_, rfl⟩
    have hlen : t.size = l.length := by rw [← hl, Lib.size_eq]
    cases l with
    | nil =>
      have h0 : t.size = 0 := hlen
      have hR : Hid (t = ⟨(dropB c s.data.toList).toArray⟩) := Lib.hid (by rw [← hP.out, hl]; exact str_of hl)
      go_wp2_with fail
      go_ret
      exact ⟨ret_s hR.out, below_drewN (Below.refl _ _) n⟩
    | cons x l =>
      have h1 : 0 < t.size := by rw [hlen]; simp
      have hx : t[0] = x := by
        have := Lib.size_eq t
        show t.data[0] = x
        rw [← Array.getElem_toList]; simp [hl]
      have hT := Lib.hid (ext_from t 1)
      have HL := Lib.hid hl
      clear hl
      by_cases hc : x = c
      · have hb : ((x.toNat : Int) == (c.toNat : Int)) = true := by subst hc; simp
        have hD := Lib.hid (dropB_yes (l := l) hc)
        clear hc
        go_wp2_with fail
        have hl2 : t.size = l.length + 1 := by rw [hlen]; rfl
        rw [← hl2]
        go_roundw
        case rel =>
          refine ⟨_, rfl, ⟨n, rfl⟩, by rw [Lib.size_eq, hT.out, List.length_drop, ← Lib.size_eq]; omega, Lib.hid ?_⟩
          rw [hT.out, HL.out]
          show dropB c l = _
          rw [← hD.out, ← HL.out]; exact hP.out
        case measure =>
          show (t.extract 1 t.size).size < t.size
          rw [Lib.size_eq, hT.out, List.length_drop, ← Lib.size_eq]; omega
      · have hb : ((x.toNat : Int) == (c.toNat : Int)) = false := by
          rw [beq_eq_false_iff_ne]; intro h'; apply hc; exact UInt8.toNat_inj.1 (by exact_mod_cast h')
        have hR : Hid (t = ⟨(dropB c s.data.toList).toArray⟩) := Lib.hid (by rw [← hP.out, HL.out, dropB_no hc]; exact str_of HL.out)
        clear hc
        go_wp2_with fail
        go_ret
        exact ⟨ret_s hR.out, below_drewN (Below.refl _ _) n⟩

set_option maxRecDepth 1000000 in
set_option maxHeartbeats 4000000 in
theorem tl_any (s : ByteArray) (w : World) (hs : s.size ≤ 1000000) :
    Calls Tryd.prog 78 #[.string s, .string ⟨#[48]⟩] w fun e w' => e = .returned (.string ⟨(dropB 48 s.data.toList).toArray⟩) ∧ Below w.heap.size w w' := by
  have C := Lib.hid (tlb_any s 48 w hs)
  clear hs
  by_cases h0 : s = ⟨#[]⟩
  · subst h0
    go_enter Tryd.func78, Tryd.ntmps78
    go_wp2_with fail
    go_ret
    exact ⟨rfl, Below.refl _ _⟩
  · have hE : ¬ s.toList = [] := by
      rw [ByteArray.toList_eq]; intro h; apply h0; exact str_of h
    have hE2 : s.toList.isEmpty = false := by
      cases hh : s.toList with
      | nil => exact absurd hh hE
      | cons x l => rfl
    clear h0
    go_enter Tryd.func78, Tryd.ntmps78
    go_wp2_with (go_at_call 90; refine C.out.mono ?_; rintro e w1 ⟨rfl, hb1⟩)
    go_ret
    exact ⟨rfl, hb1⟩

end Go.Proofs.YtcbocdkpdedogaaDoor

namespace Go.Proofs.YtcbocdkpdedogaaDoor
open Go.RowKit Go.Proofs.Kit Go.Proofs.Nums

theorem dig_val (r : Nat) : Value.int .u8 ((48 + (r : Int) % 10)) = byteV (digB (r % 10)) := by
  unfold byteV
  rw [digB_nat (Nat.mod_lt _ (by omega))]
  congr 1

theorem erB : ElemRow Tryd.prog 96 5 (.int .u8 0) 1 1 := ⟨Tryd.underlying96, by kernel_rfl, rfl, by decide⟩

theorem digs_snoc (ds : List Nat) (d : Nat) : ((ds ++ [d]).map digB).map byteV = ((ds.map digB).map byteV) ++ [byteV (digB d)] := by simp

set_option maxRecDepth 1000000 in
set_option maxHeartbeats 1000000 in
theorem text_any (v : Value) (a : List Nat) (w : World) (ha : NatAt w v a) (hla : a.length ≤ 1000) :
    Calls Tryd.prog 53 #[v] w fun e w' => e = .returned (.string ⟨(decB (val a)).toArray⟩) ∧ Below w.heap.size w w' := by
  obtain ⟨N, hN⟩ : ∃ N, val a = N := ⟨_, rfl⟩
  obtain ⟨E, hE⟩ : ∃ E, 32 * a.length = E := ⟨_, rfl⟩
  have hNE : Hid (N < 2 ^ E) := Lib.hid (by rw [← hN, ← hE, ← base_pow]; exact val_lt a ha.2)
  have hlim := limbs_len_le (val a) a.length (val_lt a ha.2)
  have ct := trim_any v a w ha
  rw [hN] at ct hlim ⊢
  have CT := Lib.hid ct
  by_cases h0 : N = 0
  · subst h0
    rw [limbs_zero] at ct
    have CT := Lib.hid ct
    clear ct ha hN hla hlim
    go_enter Tryd.func53, Tryd.ntmps53
    go_wp2_with (go_at_call 72; refine CT.out.mono ?_; rintro e w1 ⟨v1, rfl, hv1, rfl⟩; obtain ⟨p1, c1, rfl⟩ := hv1.shape; clear hv1)
    go_ret
    exact ⟨rfl, Below.refl _ _⟩
  · have hne : limbs N ≠ [] := fun h => h0 (limbs_eq_nil.1 h)
    have hpos : 0 < (limbs N).length := List.length_pos_iff.2 hne
    have hzz : (((limbs N).length : Int) == 0) = false := by rw [beq_eq_false_iff_ne]; omega
    have hEE : E ≤ 32000 := by omega
    clear ct ha hN
    go_enter Tryd.func53, Tryd.ntmps53
    go_wp2_with (go_at_call 72; refine CT.out.mono ?_; rintro e w1 ⟨v1, rfl, hv1, rfl⟩; obtain ⟨p1, c1, rfl⟩ := hv1.shape)
    clear CT
    go_loopw [0, 3] (fun av ov wr => ∃ m k : Nat, ∃ x ds : List Nat, k ≤ E + 9 ∧ (m = 0 → 0 < k) ∧ x.length ≤ a.length ∧ Hid (limbs m = x) ∧ (∃ c p, ov = .slice p k c) ∧ NatAt wr av x ∧ wr.ownsRow w.heap.size 5 1 ov k ((ds.map digB).map byteV) ∧ Below w.heap.size w wr ∧
        Hid (ds.length = k ∧ Dig ds ∧ dval ds + 10 ^ k * m = N)) (fun _ ov _ => match ov with | .slice _ n _ => E + 9 - n | _ => 0)
    case atStart => exact ⟨N, 0, _, [], by omega, fun h => absurd h h0, hlim, Lib.hid rfl, ⟨_, _, rfl⟩, hv1, World.ownsRow_nil _ _ _ _, Below.refl _ _, Lib.hid ⟨rfl, Dig.nil, by simp [dval]⟩⟩
    case round =>
      obtain ⟨m, k, x, ds, hk, hmk, hn, hnm, ⟨oc, op, rfl⟩, hav, hown, hbel, hP⟩ := hrel
      obtain ⟨pa, ca, rfl⟩ := hav.shape
      have HAV := Lib.hid hav
      clear hav
      by_cases hm : m = 0
      · subst hm
        have hk0 := hmk rfl
        have hn0 : x = [] := by rw [← hnm.out, limbs_zero]
        subst hn0
        rcases ownsRow_cases hown with ⟨_, h1⟩ | ⟨g, cap, hs, hb1, _, _⟩
        · omega
        simp only [Value.slice.injEq] at hs
        obtain ⟨rfl, _, rfl⟩ := hs
        have hOB : OwnB wr w.heap.size g k oc (ds.map digB) := ⟨by rw [List.length_map]; exact hP.out.1, hown⟩
        have HT := Lib.hid (text_end hP.out.2.1 hP.out.2.2 h0)
        have HOB := Lib.hid hOB
        have TL := Lib.hid (fun w4 => tl_any ⟨((ds.map digB).reverse).toArray⟩ w4 (by rw [Lib.size_eq]; show ((ds.map digB).reverse).length ≤ _; rw [List.length_reverse, List.length_map, hP.out.1]; omega))
        clear hOB hown
        go_wp2_with (first
          | (go_at_call 77; refine (rev_any _ _ _ _ _ _ HOB.out (by omega) hbel.size).mono ?_; rintro e w4 ⟨rfl, hO4, hb4⟩; have hconv := string_of_owned 96 9 Tryd.underlying96 Tryd.underlying5 Tryd.underlying9 (P := Tryd.prog) hO4.2; clear hO4)
          | (go_at_call 78; refine (TL.out _).mono ?_; rintro e w5 ⟨rfl, hb5⟩))
        go_ret
        exact ⟨by rw [← HT.out]; rfl, (hbel.trans hb4).trans (hb5.mono (hbel.trans hb4).size)⟩
      · have hkE : k < E := ten_lt (Nat.pos_of_ne_zero hm) hP.out.2.2 hNE.out
        have hn1 : 0 < x.length := by rw [← hnm.out]; exact List.length_pos_iff.2 fun h => hm (limbs_eq_nil.1 h)
        have sd := sdiv_any _ x 1000000000 wr HAV.out (by omega) (by omega) (by omega)
        rw [show ((1000000000 : Nat) : Int) = 1000000000 by omega, show val x = m by rw [← hnm.out, val_limbs]] at sd
        obtain ⟨r0, hr0⟩ : ∃ r0, m % 1000000000 = r0 := ⟨_, rfl⟩
        obtain ⟨M, hM⟩ : ∃ M, m / 1000000000 = M := ⟨_, rfl⟩
        have hr9 : r0 < 1000000000 := by omega
        rw [hr0, hM] at sd
        have SD := Lib.hid sd
        have HR9 := Lib.hid hr9
        have HMM : Hid (m = r0 + 10 ^ 9 * M) := Lib.hid (by rw [← hr0, ← hM]; exact chunk_eq m)
        clear sd hr0 hM hr9
        go_wp2_with (first
          | (go_at_call 76; ((with_reducible refine SD.out.mono ?_); rintro e w4 ⟨v4, rfl, ⟨q, hq, hqv, hql, hob, hsz⟩, hb4⟩))
          | (go_at_call 72; refine (trim_at _ _ _ hq).mono ?_; rintro e w5 ⟨v5, rfl, hv5, rfl, hv5b⟩))
        rw [hqv] at hv5
        have hML : (limbs M).length ≤ a.length := by
          have h1 := limbs_len_le M q.length (by rw [← hqv]; exact val_lt q hq.2)
          omega
        obtain ⟨y, hy⟩ : ∃ y, limbs M = y := ⟨_, rfl⟩
        rw [hy] at hv5 hML
        have HY := Lib.hid hy
        have HV5 := Lib.hid hv5
        clear hy hv5 hq hqv hql SD HAV hnm hmk
        have hown4 := ownsRow_below hown hb4
        have hbel4 := hbel.trans (hb4.mono hbel.size)
        have HK4 := hbel4.size
        obtain ⟨B0, hB0⟩ : ∃ B0, (Value.slice op k oc).ownBlock = B0 := ⟨_, rfl⟩
        have HB0 : Hid (∀ b, v5.ownBlock = some b → b < w4.heap.size ∧ B0 ≠ some b) := Lib.hid (by
          intro b hb
          rcases hv5b with h1 | h1
          · rw [h1] at hb; simp at hb
          · rw [h1, hob] at hb
            simp only [Option.some.injEq] at hb
            subst hb
            refine ⟨hsz, fun h2 => ?_⟩
            rw [h2] at hB0
            exact Nat.lt_irrefl _ (hown.lt _ hB0).2)
        clear hv5b hob hsz
        go_loopw [3, 5, 21] (fun ov rv jv wr => ∃ j r : Nat, ∃ ds' : List Nat, j ≤ 9 ∧ rv = .int .u64 r ∧ jv = .int .i64 j ∧ r < 1000000000 ∧ wr.ownsRow w.heap.size 5 1 ov (k + j) ((ds'.map digB).map byteV) ∧ Hid ((ov.ownBlock = B0 ∨ ∃ g, ov.ownBlock = some g ∧ w4.heap.size ≤ g) ∧ w4.heap.size ≤ wr.heap.size ∧ ∀ b, b < w4.heap.size → B0 ≠ some b → wr.heap[b]? = w4.heap[b]?) ∧ Below w.heap.size w wr ∧
            Hid (ds'.length = k + j ∧ Dig ds' ∧ dval ds' + 10 ^ (k + j) * (r + 10 ^ (9 - j) * M) = N ∧ r < 10 ^ (9 - j))) (fun _ _ j _ => 9 - (intOf j).toNat)
        case atStart => exact ⟨0, r0, ds, by omega, rfl, rfl, HR9.out, hown4, Lib.hid ⟨.inl hB0, Nat.le_refl _, fun _ _ _ => rfl⟩, hbel4, Lib.hid ⟨hP.out.1, hP.out.2.1, by rw [← hP.out.2.2, HMM.out]; rfl, HR9.out⟩⟩
        case round =>
          obtain ⟨j, r, ds', hj, rfl, rfl, hr9, hown', hb4', hbel', hP'⟩ := hrel
          by_cases hj9 : j < 9
          · obtain ⟨p, hp⟩ : ∃ p, 9 - j = p + 1 := ⟨8 - j, by omega⟩
            have hT : Hid ((ds' ++ [r % 10]).length = k + (j + 1) ∧ Dig (ds' ++ [r % 10]) ∧ dval (ds' ++ [r % 10]) + 10 ^ (k + (j + 1)) * (r / 10 + 10 ^ (9 - (j + 1)) * M) = N ∧ r / 10 < 10 ^ (9 - (j + 1))) := by
              have h := hP'.out
              rw [hp] at h
              rw [show 9 - (j + 1) = p by omega]
              exact Lib.hid ⟨by rw [List.length_append, h.1]; rfl, h.2.1.snoc (Nat.mod_lt _ (by omega)), text_step h.1 h.2.2.1, div10_lt h.2.2.2⟩
            go_wp2_with (at_builtin; go_must (refine append_fresh erB rfl rfl hown' rfl rfl rfl (by simp [Value.oneCell']) (by omega) (by omega) hbel'.size ?_); intro v' w1 hown1 hgr1 hb1 hne1 hfr1)
            have HF : Hid ((v'.ownBlock = B0 ∨ ∃ g, v'.ownBlock = some g ∧ w4.heap.size ≤ g) ∧ w4.heap.size ≤ w1.heap.size ∧ ∀ b, b < w4.heap.size → B0 ≠ some b → w1.heap[b]? = w4.heap[b]?) := by
              obtain ⟨f1, f2, f3⟩ := hb4'.out
              refine Lib.hid ⟨?_, Nat.le_trans f2 hb1.size, fun b h1 h2 => ?_⟩
              · rcases hfr1 with h1 | ⟨g, h1, h2⟩
                · rw [h1]; exact f1
                · exact .inr ⟨g, h1, by omega⟩
              · rw [hgr1.block b (by omega) ?_]
                · exact f3 b h1 h2
                · rcases f1 with h3 | ⟨g, h3, h4⟩
                  · rw [h3]; exact fun h => h2 h.symm
                  · rw [h3]; intro h; simp at h; omega
            clear hgr1 hfr1 hne1
            go_roundw
            case rel =>
              refine ⟨j + 1, r / 10, ds' ++ [r % 10], by omega, by go_num, by go_num, by omega, ?_, HF, hbel'.trans hb1, hT⟩
              rw [digs_snoc, ← dig_val]
              exact hown1
            case measure => simp [intOf] <;> omega
          · obtain rfl : j = 9 := by omega
            have h := hP'.out
            have hr0 : r = 0 := by
              have := h.2.2.2
              simp at this; exact this
            subst hr0
            rcases ownsRow_cases hown' with ⟨_, h1⟩ | ⟨g, cap, hs, hb1, _, _⟩
            · omega
            have HOWN := Lib.hid hown'
            clear hown'
            subst hs
            go_wp2_with fail
            go_roundw
            case rel =>
              exact ⟨M, k + 9, y, ds', by omega, fun _ => by omega, hML, HY, ⟨_, _, rfl⟩, NatAtSame HV5.out (fun b hb => hb4'.out.2.2 b (HB0.out b hb).1 (HB0.out b hb).2), HOWN.out, hbel', Lib.hid ⟨h.1, h.2.1, by have := h.2.2.1; simpa using this⟩⟩
            case measure =>
              show E + 9 - (k + 9) < E + 9 - k
              omega

end Go.Proofs.YtcbocdkpdedogaaDoor
