/- electionlaw37.orders: all orders. -/
import Derived.Test.YtlhkjkhbgebgiaaV8
import Derived.Test.YtlhkjkhbgebgiaaV10
import Derived.Test.YtlhkjkhbgebgiaaKR
namespace Go.Proofs.Nums

def insS (i : Int) (p : List Int) (k : Nat) : List Int := p.take k ++ [i] ++ p.drop k
def insAll (i : Int) (p : List Int) (m : Nat) : List (List Int) := (List.range m).map (insS i p)
theorem insAll_succ (i : Int) (p : List Int) (m : Nat) : insAll i p (m + 1) = insAll i p m ++ [insS i p m] := by
  unfold insAll
  rw [List.range_succ, List.map_append]; rfl
theorem insAll_len (i : Int) (p : List Int) (m : Nat) : (insAll i p m).length = m := by unfold insAll; simp
/-- What is laid of the next list behind k of the rows. -/
def nextS (i k : Nat) : List (List Int) := ((ordS i).take k).flatMap fun p => insAll i p (p.length + 1)
theorem nextS_succ {i k : Nat} {p : List Int} (hk : k < (ordS i).length) (hp : (ordS i).getD k [] = p) : nextS i (k + 1) = nextS i k ++ insAll i p (p.length + 1) := by
  unfold nextS
  rw [List.take_succ_eq_append_getElem hk, List.flatMap_append, ← hp, List.getD_eq_getElem?_getD, List.getElem?_eq_getElem hk]
  simp
theorem nextS_all {i k : Nat} (hk : (ordS i).length ≤ k) : nextS i k = ordS (i + 1) := by
  unfold nextS
  rw [List.take_of_length_le hk]
  rfl
theorem ord_le {i : Nat} (h : i ≤ 6) : (ordS i).length ≤ 720 := by
  have h1 := ord_num i
  have h2 : factI i ≤ 720 := by
    have : i = 0 ∨ i = 1 ∨ i = 2 ∨ i = 3 ∨ i = 4 ∨ i = 5 ∨ i = 6 := by omega
    rcases this with rfl | rfl | rfl | rfl | rfl | rfl | rfl <;> decide
  omega
theorem ord_get {i k : Nat} {p : List Int} (hk : k < (ordS i).length) (hp : (ordS i).getD k [] = p) : p ∈ ordS i := by
  rw [← hp, List.getD_eq_getElem?_getD, List.getElem?_eq_getElem hk]
  exact List.getElem_mem hk

end Go.Proofs.Nums
namespace Go.Proofs.Ytlhkjkhbgebgiaa
open Go.RowKit Go.Proofs.Kit Go.Proofs.Nums

/-- The one cell of a list of orders: its row. -/
def rowP (w : World) (c : List Value) (l : List Int) : Prop := ∃ u, c = [u] ∧ IntsAt w u l ∧ (l = [] → u = .slice none 0 0)
def OrdsAt (w : World) (v : Value) (L : List (List Int)) : Prop := SliceOf rowP 1 w v L
theorem OrdsAt.keep {w w' : World} {v : Value} {L : List (List Int)} (h : OrdsAt w v L) (hb : Below w.heap.size w w') : OrdsAt w' v L := SliceOf.keep h hb fun _ _ ⟨u, h1, h2, h3⟩ => ⟨u, h1, h2.keep hb, h3⟩
theorem OrdsAt.shp {w : World} {v : Value} {L : List (List Int)} (h : OrdsAt w v L) : ∃ p c, v = .slice p L.length c := by
  obtain ⟨p, c, h1, _⟩ := SliceOf.shape h
  exact ⟨p, c, h1⟩
theorem OrdsAt.cellAt {w : World} {p : Option Addr} {n c : Nat} {L : List (List Int)} (h : OrdsAt w (.slice p n c) L) {k : Nat} (hk : k < L.length) {v : List Int} (hv : L.getD k [] = v) :
    ∃ b off u, p = some ⟨b, off, none⟩ ∧ L.length ≤ c ∧ c ≤ 9223372036854775807 ∧ w.cell? ⟨b, off + k, none⟩ = some u ∧ IntsAt w u v ∧ (v = [] → u = .slice none 0 0) := by
  obtain ⟨b, off, cap, cs, hv2, h1, h2, h3, h4, h5⟩ := SliceOf.at_ (by decide) h hk
  simp only [Value.slice.injEq] at hv2
  obtain ⟨rfl, _, rfl⟩ := hv2
  have e : L[k] = v := by rw [← hv, List.getD_eq_getElem?_getD, List.getElem?_eq_getElem hk]; rfl
  rw [e] at h4
  obtain ⟨u, rfl, g, g2⟩ := h4
  have := h5 0 u rfl
  rw [Nat.mul_one, Nat.add_zero] at this
  exact ⟨b, off, u, rfl, h1, h2, this, g, g2⟩
theorem erP : ElemRow Try.prog 32 22 (.slice none 0 0) 1 24 := ⟨Try.underlying32, by kernel_rfl, rfl, by decide⟩
theorem Lst.fresh_elt {α : Type} {R : World → List Value → α → Prop} {B base k : Nat} {e : TypeId} {w w1 : World} {v : Value} {l : List α} {css : List (List Value)} {S : World → Prop} (hL : Lst R B base e k v w l css) (hm : Made w.heap.size S w1) (hB : B ≤ w.heap.size) : On (fun b => B ≤ b ∧ b < w1.heap.size ∧ v.ownBlock ≠ some b) S w1 :=
  On.mono (hm.off (o := v.ownBlock) fun g hg => (hL.lt g hg).2) fun _ hb => ⟨Nat.le_trans hB hb.1, hb.2⟩
/-- The first list: one order, of none. -/
theorem ords_first (w : World) : OrdsAt (w.alloc (.cells #[.slice none 0 0] 22)) (.slice (some ⟨w.heap.size, 0, none⟩) 1 1) (ordS 0) := by
  refine ⟨[[.slice none 0 0]], _, 1, rfl, Nat.le_refl _, by omega, fun h => by simp at h, rfl, fun c hc => ?_, fun q hq i c j u hi hj => ?_, fun i c x hi hx => ?_⟩
  · rw [List.mem_singleton.1 hc]; rfl
  · obtain rfl := Option.some.inj hq
    have hi0 : i = 0 := by
      rcases i with _ | i
      · rfl
      · simp at hi
    subst hi0
    have e : c = [.slice none 0 0] := by simpa using hi.symm
    subst e
    rw [Addr.add_lit, Nat.zero_add, Nat.zero_mul, Nat.zero_add, cell_alloc_new w #[.slice none 0 0] 22 (0, 0) j]
    simpa using hj
  · have hi0 : i = 0 := by
      rcases i with _ | i
      · rfl
      · simp at hi
    subst hi0
    have e : c = [.slice none 0 0] := by simpa using hi.symm
    subst e
    have e2 : x = [] := by
      have : (ordS 0)[0]? = some ([] : List Int) := rfl
      rw [this] at hx
      simpa using hx.symm
    subst e2
    exact ⟨_, rfl, RowAt.nil _, fun _ => rfl⟩

theorem ord_one {w : World} {base : Nat} {e : TypeId} {size n : Nat} {v : Value} {cs : List Value} (h : w.ownsRow base e size v n cs) : ∀ u ∈ [v], u.oneCell' = true := by
  intro u hu
  rw [List.mem_singleton.1 hu]
  obtain ⟨p, c, rfl⟩ : ∃ p c, v = .slice p n c := by
    rcases h.2 with ⟨rfl, hn⟩ | ⟨g, cap, cur, rfl, _⟩
    · exact ⟨none, 0, by rw [hn]⟩
    · exact ⟨_, cap, rfl⟩
  rfl
theorem own_sl {w : World} {base : Nat} {e : TypeId} {size n : Nat} {v : Value} {cs : List Value} (h : w.ownsRow base e size v n cs) : ∃ p m c, v = .slice p m c := by
  rcases h.2 with ⟨rfl, hn⟩ | ⟨g, cap, cur, rfl, _⟩
  · exact ⟨_, _, _, rfl⟩
  · exact ⟨_, _, _, rfl⟩
theorem ord_elt {w w3 : World} {xv v3 : Value} {base b3 : Nat} {L : List (List Int)} {css : List (List Value)} (hL : Lst rowP 0 base 22 1 xv w L css) {T D : List Value} {p : List Int} {a n : Nat} {i : Int}
    (hown : w3.ownsRow b3 3 1 v3 n ([] ++ T ++ [Value.int .i64 i] ++ D)) (hb : w.heap.size ≤ b3) (_hn : 0 < n) (hT : (p.map (Value.int .i64)).take a = T) (hD : (p.map (Value.int .i64)).drop a = D) :
    On (fun b => 0 ≤ b ∧ b < w3.heap.size ∧ xv.ownBlock ≠ some b) (fun w => rowP w [v3] (insS i p a)) w3 := by
  have e : ([] ++ T ++ [Value.int .i64 i] ++ D) = (insS i p a).map (Value.int .i64) := by
    unfold insS
    rw [← hT, ← hD, List.map_append, List.map_append, List.map_take, List.map_drop]
    simp
  rw [e] at hown
  have hm : Made w.heap.size (fun w => IntsAt w v3 (insS i p a)) w3 := RowAt.made (RowAt.owned hown) fun b hbb => Nat.le_trans hb (hown.lt b hbb).1
  refine Lst.fresh_elt hL (hm.imp fun w' g => ⟨_, rfl, g, fun h => ?_⟩) (Nat.zero_le _)
  unfold insS at h
  simp at h

set_option maxRecDepth 100000 in
set_option maxHeartbeats 16000000 in
theorem orders_c (n : Nat) (hn : n ≤ 6) (w : World) :
    Calls Try.prog 10 #[.int .i64 n] w fun e w' => ∃ v', e = .returned v' ∧ OrdsAt w' v' (ordS n) ∧ Below w.heap.size w w' := by
  have FI := Lib.hid (ords_first w)
  have hBd : Below w.heap.size w (w.alloc (.cells #[.slice none 0 0] 22)) := (Below.refl _ _).alloc (Nat.le_refl _) _
  go_enter Try.func10, Try.ntmps10
  go_wp2_with fail
  go_loopw [3, 4, 5, 6, 7] (fun ov iv _ _ _ wr => ∃ i : Nat, i ≤ n ∧ iv = .int .i64 i ∧ Hid (OrdsAt wr ov (ordS i)) ∧ Below w.heap.size w wr) (fun _ iv _ _ _ _ => n - (intOf iv).toNat)
  case atStart => exact ⟨0, by omega, rfl, FI, hBd⟩
  case round =>
    obtain ⟨i, hi, rfl, hO, hbel⟩ := hrel
    by_cases hin : i < n
    · have zi : (i : Int) < (n : Int) := by omega
      obtain ⟨p3, c3, e3⟩ := hO.out.shp
      subst e3
      obtain ⟨m, hm⟩ : ∃ m, (ordS i).length = m := ⟨_, rfl⟩
      have HM := Lib.hid hm
      have hm720 : m ≤ 720 := by rw [← hm]; exact ord_le (by omega)
      rw [hm] at hO
      rw [hm]
      clear hm
      obtain ⟨wo, rfl⟩ : ∃ x, x = wr := ⟨_, rfl⟩
      go_wp2_with fail
      go_loopw [5, 6, 7] (fun xv kv _ wr => ∃ k : Nat, ∃ L css, k ≤ m ∧ kv = .int .i64 k ∧ L.length ≤ 7 * k ∧ Hid (Lst rowP 0 wo.heap.size 22 1 xv wr L css) ∧ Hid (L = nextS i k) ∧ Below wo.heap.size wo wr) (fun _ kv _ _ => m - (intOf kv).toNat)
      case atStart => exact ⟨0, [], [], by omega, rfl, by simp, Lib.hid (Lst.nil _), Lib.hid rfl, Below.refl _ _⟩
      case round =>
        obtain ⟨k, L, css, hk, rfl, hLl, hL, hQ, hbo⟩ := hrel
        by_cases hkm : k < m
        · have zk : (k : Int) < (m : Int) := by omega
          obtain ⟨p, hp⟩ : ∃ p, (ordS i).getD k [] = p := ⟨_, rfl⟩
          obtain ⟨b3, o3, u, hp3, hc31, hc32, hcell, hrow, hnil⟩ := hO.out.cellAt (k := k) (by rw [HM.out]; exact hkm) hp
          subst hp3
          rw [HM.out] at hc31
          have hpl : p.length = i := ord_len (ord_get (by rw [HM.out]; exact hkm) hp)
          have NX := Lib.hid (nextS_succ (i := i) (k := k) (by rw [HM.out]; exact hkm) hp)
          obtain ⟨pp, cp, eu⟩ := hrow.shape
          subst eu
          rw [hpl] at hrow hcell hnil NX
          have HPL := Lib.hid hpl
          have HROW := Lib.hid hrow
          have HCE := Lib.hid hcell
          have HNIL := Lib.hid hnil
          clear hp hpl hrow hcell hnil
          obtain ⟨wk, rfl⟩ : ∃ x, x = wr := ⟨_, rfl⟩
          go_wp2_with fail
          go_loopw [5, 7] (fun xv av wr => ∃ a : Nat, ∃ L css, a ≤ i + 1 ∧ av = .int .i64 a ∧ L.length ≤ 7 * k + a ∧ Hid (Lst rowP 0 wo.heap.size 22 1 xv wr L css) ∧ Hid (L = nextS i k ++ insAll i p a) ∧ Below wo.heap.size wo wr) (fun _ av _ => i + 1 - (intOf av).toNat)
          case atStart => exact ⟨0, L, css, by omega, rfl, by omega, hL, Lib.hid (by rw [hQ.out]; simp [insAll]), hbo⟩
          case round =>
            obtain ⟨a, L2, cs2, ha, rfl, hL2l, hL2, hQ2, hbr⟩ := hrel
            have hcellr := cell_keep hbr HCE.out
            by_cases hai : a ≤ i
            · have za : (a : Int) ≤ (i : Int) := by omega
              have HQ3 : Hid (L2 ++ [insS i p a] = nextS i k ++ insAll i p (a + 1)) := Lib.hid (by rw [hQ2.out, insAll_succ, List.append_assoc])
              have hlr := HROW.out.keep hbr
              have hszo := hbr.size
              by_cases hi0 : i = 0
              · subst hi0
                obtain rfl : a = 0 := by omega
                have ep : p = [] := List.eq_nil_of_length_eq_zero HPL.out
                have eu := HNIL.out ep
                simp only [Value.slice.injEq] at eu
                obtain ⟨rfl, -, rfl⟩ := eu
                obtain ⟨T, hT⟩ : ∃ T : List Value, (p.map (Value.int .i64)).take 0 = T := ⟨_, rfl⟩
                obtain ⟨D, hD⟩ : ∃ D : List Value, (p.map (Value.int .i64)).drop 0 = D := ⟨_, rfl⟩
                have lT : T.length = 0 := by rw [← hT]; rfl
                have lD : D.length = 0 := by rw [← hD, ep]; rfl
                have HT : Hid (RowAt wr (.slice none 0 0) T) := Lib.hid (by rw [← hT]; exact RowAt.nil _)
                have HD : Hid (RowAt wr (.slice none 0 0) D) := Lib.hid (by rw [← hD, ep]; exact RowAt.nil _)
                have HO : Hid (∀ u ∈ T, u.oneCell' = true) := Lib.hid (by rw [← hT]; exact fun u hu => ints_one p u (List.mem_of_mem_take hu))
                have HO2 : Hid (∀ u ∈ D, u.oneCell' = true) := Lib.hid (by rw [← hD]; exact fun u hu => ints_one p u (List.mem_of_mem_drop hu))
                have HO1 : Hid (∀ u ∈ [Value.int .i64 (0 : Int)], u.oneCell' = true) := Lib.hid (fun u hu => by rw [List.mem_singleton.1 hu]; rfl)
                have HTD := Lib.hid (And.intro hT hD)
                clear ep hT hD hlr
                have hcl0 := cell_alloc_old (o := .cells #[.int .i64 (0 : Int)] 3) hcellr
                go_wp2_with fail
                go_region_law (first
                  | (refine step_append_read erI (by rfl) (by rfl) (World.ownsRow_nil _ _ _ _) (by rfl) (xv := .slice none 0 0) ?_ (by rfl) HO.out ?_ ?_ (Nat.le_refl _) ?_; (first | exact HT.out.keep (Below.refl _ _).drew | exact (HT.out.keep (Below.refl _ _).drew).alloc _); omega; omega; intro v1 w1 hown1 hb1; have hB1 : Below wr.heap.size wr w1 := (by first | exact bel2' (Below.refl _ _).drew hb1 | exact bel2' (bal (Below.refl _ _).drew _) hb1); have hcl1 := cell_keep hB1 hcellr; have hcl1a := cell_keep (bal hB1 (.cells #[.int .i64 (0 : Int)] 3)) hcellr)
                  | (refine step_append_read erI (by rfl) (by rfl) (by first | exact hown1 | exact ownsRow_below hown1 ((Below.refl _ _).alloc (Nat.le_refl _) _)) (by rfl) (cs := [Value.int .i64 (0 : Int)]) ?_ (by rfl) HO1.out ?_ ?_ ?_ ?_; (first | exact one_row w1 _ _ | exact ((one_row wr _ _).keep (Below.refl _ _).drew).keep hb1); (simp only [List.length_singleton]; omega); (simp only [List.length_singleton]; omega); (first | exact hb1.size | exact Nat.le_trans hb1.size (by simp)); intro v2 w2 hown2 hb2; have hB2 : Below wr.heap.size wr w2 := (by first | exact hB1.trans (hb2.mono (by simp)) | exact (bal hB1 _).trans (hb2.mono (by simp))); have hcl2 := cell_keep hB2 hcellr)
                  | (refine step_append_read erI (by rfl) (by rfl) hown2 (by rfl) (xv := .slice none 0 0) ?_ (by rfl) HO2.out ?_ ?_ ?_ ?_; exact HD.out.keep hB2; (simp only [List.length_singleton]; omega); (simp only [List.length_singleton]; omega); (first | exact hb2.size | exact Nat.le_trans (by first | exact hb1.size | exact Nat.le_trans hb1.size (by simp)) hb2.size); intro v3 w3 hown3 hb3; have hB3 : Below wr.heap.size wr w3 := hB2.trans (hb3.mono (by simp)); obtain ⟨p9, n9, c9, e9⟩ := own_sl hown3; subst e9; have HE3 := Lib.hid (ord_elt hL2.out hown3 (by first | exact Nat.le_refl _ | simp) (by first | omega | (simp; omega)) HTD.out.1 HTD.out.2))
                  | (refine step_append_lst erP (by rfl) (by rfl) (hL2.out.keep (bal hB3 _)) (by rfl) (by rfl) (c := [.slice p9 n9 c9]) (fun j u h => alloc_cell _ _ _ _ j u (by simpa using h)) (by rfl) (ord_one hown3) (by omega) (by omega) (Nat.le_trans hszo (bal hB3 _).size) (y := insS 0 p 0) (On.mono (On.step HE3.out fun b hb => (((Below.refl w3.heap.size w3).alloc (Nat.le_refl _) _).block b hb.2.1)) fun b hb => ⟨hb.1, Nat.lt_of_lt_of_le hb.2.1 (by simp), hb.2.2⟩) ?_; intro v4 w4 hL4 hb4 _ _; have HL4 := Lib.hid hL4; have hB4 := (hbr.trans ((bal hB3 _).mono hszo)).trans hb4; clear hL4))
                all_goals
                  go_wp2_with fail
                  go_roundw
                  case rel =>
                    (repeat apply Exists.intro); exact ⟨⟨0 + 1, _, _, by omega, by go_num, by simp; omega, HL4, HQ3, hB4⟩, rfl⟩
                  case measure => simp [intOf] <;> omega
              · obtain ⟨bp, op, epp, hcp1, hcp2, _⟩ := IntsAt.cellAt hlr 0 (by rw [HPL.out]; omega)
                subst epp
                rw [HPL.out] at hcp1
                have s1 : (0 : Int) ≤ (a : Int) := by omega
                have s2 : (a : Int) ≤ (i : Int) := by omega
                have s3 : (a : Int) ≤ (cp : Int) := by omega
                have s4 : (i : Int) ≤ (cp : Int) := by omega
                have s5 : a ≤ i := hai
                have s6 : a ≤ cp := by omega
                have HT0 := RowAt.take hlr a (by rw [List.length_map, HPL.out]; omega)
                have HD0 := RowAt.dropK hlr a (by rw [List.length_map, HPL.out]; omega)
                obtain ⟨T, hT⟩ : ∃ T : List Value, (p.map (Value.int .i64)).take a = T := ⟨_, rfl⟩
                obtain ⟨D, hD⟩ : ∃ D : List Value, (p.map (Value.int .i64)).drop a = D := ⟨_, rfl⟩
                have lT : T.length = a := by rw [← hT, List.length_take, List.length_map, HPL.out]; omega
                have lD : D.length = i - a := by rw [← hD, List.length_drop, List.length_map, HPL.out]
                have HO : Hid (∀ u ∈ T, u.oneCell' = true) := Lib.hid (by rw [← hT]; exact fun u hu => ints_one p u (List.mem_of_mem_take hu))
                have HO2 : Hid (∀ u ∈ D, u.oneCell' = true) := Lib.hid (by rw [← hD]; exact fun u hu => ints_one p u (List.mem_of_mem_drop hu))
                have HO1 : Hid (∀ u ∈ [Value.int .i64 (i : Int)], u.oneCell' = true) := Lib.hid (fun u hu => by rw [List.mem_singleton.1 hu]; rfl)
                rw [hT] at HT0
                have HT := Lib.hid HT0
                rcases Nat.eq_or_lt_of_le (show a ≤ cp by omega) with hck | hck
                · have hik : a = i := by omega
                  subst hik
                  subst hck
                  have HD : Hid (RowAt wr (.slice (some ⟨bp, op, none⟩) 0 0) D) := Lib.hid (by
                    have : D = [] := List.eq_nil_of_length_eq_zero (by rw [lD]; omega)
                    rw [this]; exact RowAt.empty (by omega) (fun h => by simp at h))
                  have HTD := Lib.hid (And.intro hT hD)
                  clear HT0 HD0 hT hD hlr
                  have hcl0 := cell_alloc_old (o := .cells #[.int .i64 (a : Int)] 3) hcellr
                  go_wp2_with fail
                  go_region_law (first
                    | (refine step_append_read erI (by rfl) (by rfl) (World.ownsRow_nil _ _ _ _) (by rfl) (xv := .slice (some ⟨bp, op, none⟩) a a) ?_ (by rfl) HO.out ?_ ?_ (Nat.le_refl _) ?_; (first | exact HT.out.keep (Below.refl _ _).drew | exact (HT.out.keep (Below.refl _ _).drew).alloc _); omega; omega; intro v1 w1 hown1 hb1; have hB1 : Below wr.heap.size wr w1 := (by first | exact bel2' (Below.refl _ _).drew hb1 | exact bel2' (bal (Below.refl _ _).drew _) hb1); have hcl1 := cell_keep hB1 hcellr; have hcl1a := cell_keep (bal hB1 (.cells #[.int .i64 (a : Int)] 3)) hcellr)
                    | (refine step_append_read erI (by rfl) (by rfl) (by first | exact hown1 | exact ownsRow_below hown1 ((Below.refl _ _).alloc (Nat.le_refl _) _)) (by rfl) (cs := [Value.int .i64 (a : Int)]) ?_ (by rfl) HO1.out ?_ ?_ ?_ ?_; (first | exact one_row w1 _ _ | exact ((one_row wr _ _).keep (Below.refl _ _).drew).keep hb1); (simp only [List.length_singleton]; omega); (simp only [List.length_singleton]; omega); (first | exact hb1.size | exact Nat.le_trans hb1.size (by simp)); intro v2 w2 hown2 hb2; have hB2 : Below wr.heap.size wr w2 := (by first | exact hB1.trans (hb2.mono (by simp)) | exact (bal hB1 _).trans (hb2.mono (by simp))); have hcl2 := cell_keep hB2 hcellr)
                    | (refine step_append_read erI (by rfl) (by rfl) hown2 (by rfl) (xv := .slice (some ⟨bp, op, none⟩) 0 0) ?_ (by rfl) HO2.out ?_ ?_ ?_ ?_; exact HD.out.keep hB2; (simp only [List.length_singleton]; omega); (simp only [List.length_singleton]; omega); (first | exact hb2.size | exact Nat.le_trans (by first | exact hb1.size | exact Nat.le_trans hb1.size (by simp)) hb2.size); intro v3 w3 hown3 hb3; have hB3 : Below wr.heap.size wr w3 := hB2.trans (hb3.mono (by simp)); obtain ⟨p9, n9, c9, e9⟩ := own_sl hown3; subst e9; have HE3 := Lib.hid (ord_elt hL2.out hown3 (by first | exact Nat.le_refl _ | simp) (by first | omega | (simp; omega)) HTD.out.1 HTD.out.2))
                    | (refine step_append_lst erP (by rfl) (by rfl) (hL2.out.keep (bal hB3 _)) (by rfl) (by rfl) (c := [.slice p9 n9 c9]) (fun j u h => alloc_cell _ _ _ _ j u (by simpa using h)) (by rfl) (ord_one hown3) (by omega) (by omega) (Nat.le_trans hszo (bal hB3 _).size) (y := insS a p a) (On.mono (On.step HE3.out fun b hb => (((Below.refl w3.heap.size w3).alloc (Nat.le_refl _) _).block b hb.2.1)) fun b hb => ⟨hb.1, Nat.lt_of_lt_of_le hb.2.1 (by simp), hb.2.2⟩) ?_; intro v4 w4 hL4 hb4 _ _; have HL4 := Lib.hid hL4; have hB4 := (hbr.trans ((bal hB3 _).mono hszo)).trans hb4; clear hL4))
                  all_goals
                    go_wp2_with fail
                    go_roundw
                    case rel =>
                      exact ⟨a + 1, _, _, by omega, by go_num, by simp; omega, HL4, HQ3, hB4⟩
                    case measure => simp [intOf] <;> omega
                · have hck2 : ¬ cp = a := by omega
                  rw [hD] at HD0
                  have HD := Lib.hid HD0
                  have HTD := Lib.hid (And.intro hT hD)
                  clear HT0 HD0 hT hD hlr
                  have hcl0 := cell_alloc_old (o := .cells #[.int .i64 (i : Int)] 3) hcellr
                  go_wp2_with fail
                  go_region_law (first
                    | (refine step_append_read erI (by rfl) (by rfl) (World.ownsRow_nil _ _ _ _) (by rfl) (xv := .slice (some ⟨bp, op, none⟩) a cp) ?_ (by rfl) HO.out ?_ ?_ (Nat.le_refl _) ?_; (first | exact HT.out.keep (Below.refl _ _).drew | exact (HT.out.keep (Below.refl _ _).drew).alloc _); omega; omega; intro v1 w1 hown1 hb1; have hB1 : Below wr.heap.size wr w1 := (by first | exact bel2' (Below.refl _ _).drew hb1 | exact bel2' (bal (Below.refl _ _).drew _) hb1); have hcl1 := cell_keep hB1 hcellr; have hcl1a := cell_keep (bal hB1 (.cells #[.int .i64 (i : Int)] 3)) hcellr)
                    | (refine step_append_read erI (by rfl) (by rfl) (by first | exact hown1 | exact ownsRow_below hown1 ((Below.refl _ _).alloc (Nat.le_refl _) _)) (by rfl) (cs := [Value.int .i64 (i : Int)]) ?_ (by rfl) HO1.out ?_ ?_ ?_ ?_; (first | exact one_row w1 _ _ | exact ((one_row wr _ _).keep (Below.refl _ _).drew).keep hb1); (simp only [List.length_singleton]; omega); (simp only [List.length_singleton]; omega); (first | exact hb1.size | exact Nat.le_trans hb1.size (by simp)); intro v2 w2 hown2 hb2; have hB2 : Below wr.heap.size wr w2 := (by first | exact hB1.trans (hb2.mono (by simp)) | exact (bal hB1 _).trans (hb2.mono (by simp))); have hcl2 := cell_keep hB2 hcellr)
                    | (refine step_append_read erI (by rfl) (by rfl) hown2 (by rfl) (xv := .slice (some ⟨bp, op + a, none⟩) (i - a) (cp - a)) ?_ (by rfl) HO2.out ?_ ?_ ?_ ?_; exact HD.out.keep hB2; (simp only [List.length_singleton]; omega); (simp only [List.length_singleton]; omega); (first | exact hb2.size | exact Nat.le_trans (by first | exact hb1.size | exact Nat.le_trans hb1.size (by simp)) hb2.size); intro v3 w3 hown3 hb3; have hB3 : Below wr.heap.size wr w3 := hB2.trans (hb3.mono (by simp)); obtain ⟨p9, n9, c9, e9⟩ := own_sl hown3; subst e9; have HE3 := Lib.hid (ord_elt hL2.out hown3 (by first | exact Nat.le_refl _ | simp) (by first | omega | (simp; omega)) HTD.out.1 HTD.out.2))
                    | (refine step_append_lst erP (by rfl) (by rfl) (hL2.out.keep (bal hB3 _)) (by rfl) (by rfl) (c := [.slice p9 n9 c9]) (fun j u h => alloc_cell _ _ _ _ j u (by simpa using h)) (by rfl) (ord_one hown3) (by omega) (by omega) (Nat.le_trans hszo (bal hB3 _).size) (y := insS i p a) (On.mono (On.step HE3.out fun b hb => (((Below.refl w3.heap.size w3).alloc (Nat.le_refl _) _).block b hb.2.1)) fun b hb => ⟨hb.1, Nat.lt_of_lt_of_le hb.2.1 (by simp), hb.2.2⟩) ?_; intro v4 w4 hL4 hb4 _ _; have HL4 := Lib.hid hL4; have hB4 := (hbr.trans ((bal hB3 _).mono hszo)).trans hb4; clear hL4))
                  all_goals
                    go_wp2_with fail
                    go_roundw
                    case rel =>
                      exact ⟨a + 1, _, _, by omega, by go_num, by simp; omega, HL4, HQ3, hB4⟩
                    case measure => simp [intOf] <;> omega
            · have za : ¬ (a : Int) ≤ (i : Int) := by omega
              have HX : Hid (L2 = nextS i (k + 1)) := Lib.hid (by rw [NX.out, hQ2.out, show a = i + 1 by omega])
              go_wp2_with fail
              go_roundw
              case rel => exact ⟨k + 1, L2, cs2, by omega, by go_num, by omega, hL2, HX, hbr⟩
              case measure => simp [intOf] <;> omega
        · have zk : ¬ (k : Int) < (m : Int) := by omega
          have HX : Hid (OrdsAt wr u5 (ordS (i + 1))) := Lib.hid (by rw [← nextS_all (i := i) (k := k) (by rw [HM.out]; omega), ← hQ.out]; exact hL.out.slice)
          go_wp2_with fail
          go_roundw
          case rel => exact ⟨i + 1, by omega, by go_num, HX, bel2' hbel hbo⟩
          case measure => simp [intOf] <;> omega
    · obtain rfl : i = n := by omega
      go_wp2_with fail
      go_ret
      exact ⟨_, rfl, hO.out, hbel⟩

end Go.Proofs.Ytlhkjkhbgebgiaa
