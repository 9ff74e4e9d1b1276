/-
  Orders. By an AI agent.
-/
import Derived.Test.YtefnpnokbanbkaaAs20
import Derived.Orders
set_option linter.all false
namespace Go.AS
open Go
set_option maxHeartbeats 1000000

theorem Same.refl (e : Env) : Same e e := fun _ => rfl
theorem Same.symm {e e' : Env} (h : Same e e') : Same e' e := fun i => (h i).symm
theorem Same.trans {a b c : Env} (h : Same a b) (k : Same b c) : Same a c := fun i => (h i).trans (k i)

theorem memN_iff {x : Nat} : ∀ {l : List Nat}, memN x l = true ↔ x ∈ l
  | [] => by simp [memN]
  | y :: r => by
    simp only [memN, Bool.or_eq_true, memN_iff (l := r), List.mem_cons]
    exact or_congr ⟨fun h => Nat.eq_of_beq_eq_true h, fun h => by subst h; exact nbeq_self _⟩ Iff.rfl

theorem memNs_false {xs ys : List Nat} (h : memNs xs ys = false) : ∀ x ∈ xs, x ∉ ys := fun x hx hy => by
  have : memNs xs ys = true := List.any_eq_true.2 ⟨x, hx, memN_iff.2 hy⟩
  rw [h] at this; cases this

theorem pairOk_spec {x y : IOper} (h : pairOk x y = true) : (∀ d, x.dst = some d → d ∉ looks y) ∧ (∀ d, x.dst = some d → y.dst ≠ some d) ∧ (∀ d, y.dst = some d → d ∉ looks x) ∧
    (classOf x.op = 0 ∨ classOf y.op = 0 ∨ (classOf x.op ≤ 1 ∧ classOf y.op ≤ 1)) := by
  simp only [pairOk, Bool.and_eq_true, Bool.not_eq_true', Bool.or_eq_true] at h
  obtain ⟨⟨⟨h1, h2⟩, h3⟩, h4⟩ := h
  refine ⟨fun d hd => memNs_false h1 d (by simp [hd, optD]), fun d hd hy => memNs_false h2 d (by simp [hd, optD]) (by simp [hy, optD]), fun d hd => memNs_false h3 d (by simp [hd, optD]), ?_⟩
  rcases h4 with (h4 | h4) | h4
  · exact .inl (Nat.eq_of_beq_eq_true h4)
  · exact .inr (.inl (Nat.eq_of_beq_eq_true h4))
  · exact .inr (.inr ⟨Nat.le_of_ble_eq_true h4.1, Nat.le_of_ble_eq_true h4.2⟩)

theorem putD_agree {e : Env} {d : Option Nat} {v : AV} {l : List Nat} (h : ∀ i, d = some i → i ∉ l) : ∀ t ∈ l, Env.get (putD e d v) t = Env.get e t := fun t ht => by
  rw [get_putD, if_neg fun hd => h t hd ht]

theorem swap {call : CallT} {x y : IOper} (hp : pairOk x y = true) {e e1 e2 : Env} {S S1 S2 : Stack} (hS : S ≠ []) (hx : evOper call x e S = some (.go e1 S1)) (hy : evOper call y e1 S1 = some (.go e2 S2)) :
    ∃ e1' S1' e2', evOper call y e S = some (.go e1' S1') ∧ evOper call x e1' S1' = some (.go e2' S2) ∧ Same e2 e2' := by
  obtain ⟨p1, p2, p3, p4⟩ := pairOk_spec hp
  obtain ⟨v, rfl, n1, a1, c1, r1⟩ := evOper_shape hx
  obtain ⟨u, rfl, n2, a2, c2, r2⟩ := evOper_shape hy
  have hy' := a2 e fun t ht => (putD_agree p1 t ht).symm
  have hsame : Same (putD (putD e x.dst v) y.dst u) (putD (putD e y.dst u) x.dst v) := fun i => by
    simp only [get_putD]
    by_cases h1 : y.dst = some i
    · rw [if_pos h1, if_neg fun h => p2 i h h1, if_pos h1]
    · rw [if_neg h1, if_neg h1]
  by_cases hx0 : classOf x.op = 0
  · obtain ⟨rfl, c1⟩ := c1 hx0
    refine ⟨_, _, _, hy', ?_, hsame⟩
    -- the value is the same one
    have h4 := (evOper_shape (a1 (putD e y.dst u) fun t ht => putD_agree p3 t ht))
    obtain ⟨w, hw, _, _, c4, _⟩ := h4
    have := (c4 hx0).2 S2 (n2 hS)
    rw [this, ← hw]
  · by_cases hy0 : classOf y.op = 0
    · obtain ⟨rfl, c2⟩ := c2 hy0
      have h3 := (evOper_shape hy')
      obtain ⟨w, hw, _, _, c3, _⟩ := h3
      have h5 := (c3 hy0).2 S hS
      rw [← hw] at h5
      exact ⟨_, _, _, h5, a1 _ fun t ht => putD_agree p3 t ht, hsame⟩
    · have hb : classOf x.op = 1 ∧ classOf y.op = 1 := by omega
      have e1 := r1 hb.1
      have e2 := r2 hb.2
      subst e1
      subst e2
      exact ⟨_, _, _, hy', a1 _ fun t ht => putD_agree p3 t ht, hsame⟩

theorem evOps_same {call : CallT} : ∀ {l : List IOper} {e e' e1 : Env} {S S1 : Stack}, evOps call l e S = some (.go e1 S1) → Same e e' → ∃ e1', evOps call l e' S = some (.go e1' S1) ∧ Same e1 e1'
  | [], e, e', e1, S, S1, h, hs => by
    simp only [evOps, Option.some.injEq, OR.go.injEq] at h
    obtain ⟨rfl, rfl⟩ := h
    exact ⟨e', rfl, hs⟩
  | o :: r, e, e', e1, S, S1, h, hs => by
    simp only [evOps] at h
    split at h
    · rename_i e2 S2 ho
      obtain ⟨v, rfl, _, a, _⟩ := evOper_shape ho
      have ho' := a e' fun t _ => (hs t).symm
      obtain ⟨e1', h1, h2⟩ := evOps_same h (e' := putD e' o.dst v) fun i => by rw [get_putD, get_putD, hs i]
      exact ⟨e1', by simp only [evOps, ho', h1], h2⟩
    · rename_i hno
      exact absurd h (hno _ _)

theorem evOps_move {call : CallT} {j : IOper} {B : List IOper} : ∀ {A : List IOper} {e e1 : Env} {S S1 : Stack}, (∀ x ∈ A, pairOk x j = true) → S ≠ [] → evOps call (A ++ j :: B) e S = some (.go e1 S1) → ∃ e1', evOps call (j :: (A ++ B)) e S = some (.go e1' S1) ∧ Same e1 e1'
  | [], e, e1, S, S1, _, _, h => ⟨e1, h, .refl _⟩
  | x :: A, e, e1, S, S1, hp, hS, h => by
    simp only [List.cons_append, evOps] at h
    split at h
    · rename_i ex Sx hx
      have hSx : Sx ≠ [] := by obtain ⟨_, _, n, _⟩ := evOper_shape hx; exact n hS
      obtain ⟨e1', h1, h2⟩ := evOps_move (fun y hy => hp y (by simp [hy])) hSx h
      simp only [evOps] at h1
      split at h1
      · rename_i ej Sj hj
        obtain ⟨ea, Sa, eb, k1, k2, k3⟩ := swap (hp x (by simp)) hS hx hj
        obtain ⟨e3, k4, k5⟩ := evOps_same h1 k3
        exact ⟨e3, by simp only [List.cons_append, evOps, k1, k2, k4], h2.trans k5⟩
      · rename_i hno
        exact absurd h1 (hno _ _)
    · rename_i hno
      exact absurd h (hno _ _)

/-! ### What drawOk says -/
theorem binding_iff (e : Edge) : binding e = Region.binds .any e := by
  unfold binding Region.binds
  cases e.ground <;> rfl

theorem aheadOf_pre : ∀ (ops : List Oper) (acc : List (List Nat)) (k : Nat), k < acc.length → (aheadOf acc ops)[k]? = acc[k]?
  | [], _, _, _ => rfl
  | o :: r, acc, k, h => by
    simp only [aheadOf]
    rw [aheadOf_pre r _ k (by simp; omega), List.getElem?_append_left h]

theorem aheadOf_spec : ∀ (ops : List Oper) (acc : List (List Nat)) (j : Nat) (o : Oper), ops[j]? = some o → ∃ ps, (aheadOf acc ops)[acc.length + j]? = some ps ∧ (∀ ed ∈ o.after, Region.binds .any ed = true → ed.on ∈ ps) ∧
    ∀ i ∈ ps, ∃ ed ∈ o.after, Region.binds .any ed = true ∧ (i = ed.on ∨ ∃ qs, (aheadOf acc ops)[ed.on]? = some qs ∧ i ∈ qs)
  | [], _, _, _, h => by simp at h
  | o :: r, acc, 0, o', h => by
    simp only [List.getElem?_cons_zero, Option.some.injEq] at h
    subst h
    simp only [aheadOf]
    refine ⟨_, by rw [aheadOf_pre r _ _ (by simp), Nat.add_zero, List.getElem?_concat_length], fun ed hed hb => ?_, fun i hi => ?_⟩
    · rw [← binding_iff] at hb
      exact List.mem_flatMap.2 ⟨ed, by simpa using hed, by rw [hb]; simp⟩
    simp only [List.mem_flatMap] at hi
    obtain ⟨ed, h1, h2⟩ := hi
    cases hb : binding ed with
    | false => rw [hb] at h2; simp at h2
    | true =>
      rw [hb] at h2
      simp only [cond_true, List.mem_cons] at h2
      refine ⟨ed, by simpa using h1, (binding_iff ed) ▸ hb, h2.imp id fun h3 => ?_⟩
      rw [List.getD_eq_getElem?_getD] at h3
      cases hq : acc[ed.on]? with
      | none => rw [hq] at h3; simp at h3
      | some qs =>
        rw [hq] at h3
        have hlt : ed.on < acc.length := (List.getElem?_eq_some_iff.1 hq).1
        exact ⟨qs, by rw [aheadOf_pre r _ _ (by simp; omega), List.getElem?_append_left hlt]; exact hq, h3⟩
  | o :: r, acc, j + 1, o', h => by
    simp only [List.getElem?_cons_succ] at h
    simp only [aheadOf]
    obtain ⟨ps, h1, h0, h2⟩ := aheadOf_spec r (acc ++ [o.after.toList.flatMap fun e => bif binding e then e.on :: acc.getD e.on [] else []]) j o' h
    refine ⟨ps, ?_, h0, h2⟩
    rw [← h1]
    congr 1
    simp; omega

theorem drawOkFrom_spec {x : IOper} {i : Nat} : ∀ {l : List (IOper × List Nat)}, drawOkFrom x i l = true → ∀ p ∈ l, i ∈ p.2 ∨ pairOk x p.1 = true
  | [], _, p, hp => by cases hp
  | (y, ps) :: r, h, p, hp => by
    simp only [drawOkFrom, Bool.and_eq_true, Bool.or_eq_true] at h
    rcases List.mem_cons.1 hp with rfl | hp
    · exact h.1.imp memN_iff.1 id
    · exact drawOkFrom_spec h.2 p hp

theorem drawOkAll_spec : ∀ {l : List (IOper × List Nat)} {i : Nat}, drawOkAll i l = true → ∀ (a : Nat) (x : IOper) (ps : List Nat), l[a]? = some (x, ps) →
    (∀ k ∈ ps, k < i + a) ∧ ∀ (b : Nat) (y : IOper) (qs : List Nat), a < b → l[b]? = some (y, qs) → i + a ∈ qs ∨ pairOk x y = true
  | [], _, _, a, x, ps, h => by simp at h
  | (x', ps') :: r, i, hd, 0, x, ps, h => by
    simp only [List.getElem?_cons_zero, Option.some.injEq, Prod.mk.injEq] at h
    obtain ⟨rfl, rfl⟩ := h
    simp only [drawOkAll, Bool.and_eq_true, List.all_eq_true] at hd
    refine ⟨fun k hk => ?_, fun b y qs hb hy => ?_⟩
    · have := hd.1.1 k hk
      have := Nat.le_of_ble_eq_true this
      omega
    · cases b with
      | zero => omega
      | succ b =>
        simp only [List.getElem?_cons_succ] at hy
        exact drawOkFrom_spec hd.1.2 _ (List.mem_of_getElem? hy)
  | (x', ps') :: r, i, hd, a + 1, x, ps, h => by
    simp only [List.getElem?_cons_succ] at h
    simp only [drawOkAll, Bool.and_eq_true] at hd
    obtain ⟨h1, h2⟩ := drawOkAll_spec hd.2 a x ps h
    refine ⟨fun k hk => by have := h1 k hk; omega, fun b y qs hb hy => ?_⟩
    cases b with
    | zero => omega
    | succ b =>
      simp only [List.getElem?_cons_succ] at hy
      have := h2 b y qs (by omega) hy
      rwa [show i + 1 + a = i + (a + 1) by omega] at this

/-- What is left, in text order. -/
def left (m : Nat) (listed : Array Bool) : List Nat := (List.range m).filter fun i => !listed.getD i true

theorem left_split {m i : Nat} {listed : Array Bool} (hm : listed.size = m) (hi : listed.getD i true = false) :
    ∃ A B, left m listed = A ++ i :: B ∧ left m (listed.setIfInBounds i true) = A ++ B ∧ ∀ x ∈ A, x < i ∧ listed.getD x true = false := by
  have him : i < m := by
    rw [← hm]
    rcases Nat.lt_or_ge i listed.size with h | h
    · exact h
    · simp [Array.getElem?_eq_none h] at hi
  obtain ⟨k, rfl⟩ : ∃ k, m = i + (k + 1) := ⟨m - i - 1, by omega⟩
  have hr : List.range (i + (k + 1)) = List.range i ++ i :: (List.range k).map (i + 1 + ·) := by
    rw [List.range_add, List.range_succ_eq_map, List.map_cons, List.map_map]
    congr 2
    apply List.map_congr_left
    intro a _
    simp only [Function.comp, Nat.succ_eq_add_one]; omega
  refine ⟨(List.range i).filter fun j => !listed.getD j true, ((List.range k).map (i + 1 + ·)).filter fun j => !listed.getD j true, ?_, ?_, fun x hx => ?_⟩
  · unfold left
    rw [hr, List.filter_append, List.filter_cons_of_pos (by rw [hi]; rfl)]
  · unfold left
    rw [hr, List.filter_append, List.filter_cons_of_neg (by simp [hm])]
    congr 1
    · apply List.filter_congr
      intro x hx
      have : i ≠ x := by have := List.mem_range.1 hx; omega
      rw [getD_set_ne true this]
    · apply List.filter_congr
      intro x hx
      obtain ⟨y, _, rfl⟩ := List.mem_map.1 hx
      rw [getD_set_ne true (by omega)]
  · obtain ⟨h1, h2⟩ := List.mem_filter.1 hx
    exact ⟨List.mem_range.1 h1, by simpa using h2⟩

theorem lin_go {call : CallT} {ops : Array Oper} {ios : List IOper} (hlen : ios.length = ops.size) (hd : drawOk ops.toList ios = true) :
    ∀ (fuel t : Nat) (listed : Array Bool) (e e1 : Env) (S S1 : Stack), listed.size = ops.size → (left ops.size listed).length ≤ fuel → S ≠ [] →
      (∀ (k : Nat) (qs : List Nat), listed.getD k true = true → k < ops.size → (aheadOf [] ops.toList)[k]? = some qs → ∀ i ∈ qs, listed.getD i true = true) →
      evOps call ((left ops.size listed).filterMap (ios[·]?)) e S = some (.go e1 S1) →
      ∃ e1', evOps call ((Region.linearise.go .any ops fuel t listed []).filterMap (ios[·]?)) e S = some (.go e1' S1) ∧ Same e1 e1' := by
  have hz : ∀ (i : Nat) (o : Oper), ops[i]? = some o → ∃ io ps, ios[i]? = some io ∧ (aheadOf [] ops.toList)[i]? = some ps ∧ (ios.zip (aheadOf [] ops.toList))[i]? = some (io, ps) ∧ (∀ ed ∈ o.after, Region.binds .any ed = true → ed.on ∈ ps) ∧
      ∀ k ∈ ps, ∃ ed ∈ o.after, Region.binds .any ed = true ∧ (k = ed.on ∨ ∃ qs, (aheadOf [] ops.toList)[ed.on]? = some qs ∧ k ∈ qs) := fun i o ho => by
    have hlt : i < ops.size := (Array.getElem?_eq_some_iff.1 ho).1
    obtain ⟨ps, h1, h0, h2⟩ := aheadOf_spec ops.toList [] i o (by rw [Array.getElem?_toList]; exact ho)
    simp only [List.length_nil, Nat.zero_add] at h1
    have h3 : ios[i]? = some (ios[i]'(by omega)) := List.getElem?_eq_getElem _
    exact ⟨_, ps, h3, h1, by simp only [List.getElem?_zip_eq_some]; exact ⟨h3, h1⟩, h0, h2⟩
  have hdo := drawOkAll_spec hd
  intro fuel
  induction fuel with
  | zero =>
    intro t listed e e1 S S1 _ hf _ _ h
    have : left ops.size listed = [] := List.length_eq_zero_iff.1 (Nat.le_zero.1 hf)
    rw [this] at h
    exact ⟨e1, h, .refl _⟩
  | succ fuel ih =>
    intro t listed e e1 S S1 hsz hf hS hcl h
    simp only [Region.linearise.go]
    change ∃ e1', evOps call ((match (Region.ready .any ops listed)[t % (Region.ready .any ops listed).length]? with
      | some i => Region.linearise.go .any ops fuel (t / (Region.ready .any ops listed).length) (listed.setIfInBounds i true) [i]
      | none => [].reverse).filterMap (ios[·]?)) e S = some (.go e1' S1) ∧ Same e1 e1'
    cases hi : (Region.ready .any ops listed)[t % (Region.ready .any ops listed).length]? with
    | none =>
      have hnil : Region.ready .any ops listed = [] := by
        cases hr : Region.ready .any ops listed with
        | nil => rfl
        | cons x xs =>
          rw [hr] at hi
          have hlt : t % (x :: xs).length < (x :: xs).length := Nat.mod_lt _ (by simp)
          simp at hi
          simp at hlt
          omega
      have hl : left ops.size listed = [] := by
        cases hl : left ops.size listed with
        | nil => rfl
        | cons i r =>
          exfalso
          have hmem : i ∈ left ops.size listed := by rw [hl]; simp
          obtain ⟨hm1, hm2⟩ := List.mem_filter.1 hmem
          have hilt := List.mem_range.1 hm1
          have hun : listed.getD i true = false := by simpa using hm2
          have ho : ops[i]? = some ops[i] := Array.getElem?_eq_getElem hilt
          have hrd : i ∈ Region.ready .any ops listed := by
            rw [mem_ready]
            refine ⟨hun, _, ho, fun ed hed hb => ?_⟩
            obtain ⟨io, ps, _, _, hzp, hin, _⟩ := hz i _ ho
            have hlt := (hdo i io ps hzp).1 _ (hin ed hed hb)
            have hsz2 : ed.on < listed.size := by omega
            cases hx : listed.getD ed.on true with
            | true =>
              simp only [Array.getD_eq_getD_getElem?, Array.getElem?_eq_getElem hsz2, Option.getD_some] at hx ⊢
              exact hx
            | false =>
              obtain ⟨A, B, hA, _, hAlt⟩ := left_split hsz hx
              rw [hl] at hA
              cases A with
              | nil => simp only [List.nil_append, List.cons.injEq] at hA; omega
              | cons a A =>
                simp only [List.cons_append, List.cons.injEq] at hA
                have := (hAlt a (by simp)).1
                omega
          rw [hnil] at hrd
          cases hrd
      rw [hl] at h
      exact ⟨e1, h, .refl _⟩
    | some i =>
      have hrd : i ∈ Region.ready .any ops listed := List.mem_of_getElem? hi
      obtain ⟨hun, o, ho, hall⟩ := mem_ready.1 hrd
      obtain ⟨A, B, hA, hB, hAlt⟩ := left_split hsz hun
      obtain ⟨io, ps, hio, hps, hzp, _, hdirect⟩ := hz i o ho
      simp only
      rw [linearise_go_acc, List.reverse_singleton, List.singleton_append, List.filterMap_cons, hio]
      rw [hA, List.filterMap_append, List.filterMap_cons, hio] at h
      simp only at h ⊢
      have hcl0 : ∀ k ∈ ps, listed.getD k true = true := fun k hk => by
        obtain ⟨ed, hed, hb, hk⟩ := hdirect k hk
        have hon := hall ed hed hb
        have hlt : ed.on < listed.size := by
          rcases Nat.lt_or_ge ed.on listed.size with h | h
          · exact h
          · simp [Array.getElem?_eq_none h] at hon
        have hon' : listed.getD ed.on true = true := by
          simp only [Array.getD_eq_getD_getElem?, Array.getElem?_eq_getElem hlt, Option.getD_some] at hon ⊢
          exact hon
        rcases hk with rfl | ⟨qs, hq, hk⟩
        · exact hon'
        · exact hcl _ qs hon' (by omega) hq k hk
      have hok : ∀ x ∈ A.filterMap (ios[·]?), pairOk x io = true := fun x hx => by
        obtain ⟨a, ha, hxa⟩ := List.mem_filterMap.1 hx
        obtain ⟨hlt, hna⟩ := hAlt a ha
        have hilt : i < ops.size := (Array.getElem?_eq_some_iff.1 ho).1
        obtain ⟨x', qs, hx', _, hzq, _, _⟩ := hz a ops[a] (Array.getElem?_eq_getElem (by omega))
        cases hx'.symm.trans hxa
        rcases (hdo a x qs hzq).2 i io ps hlt hzp with h1 | h1
        · rw [Nat.zero_add] at h1
          rw [hcl0 a h1] at hna
          cases hna
        · exact h1
      obtain ⟨e2, h1, h2⟩ := evOps_move hok hS h
      simp only [evOps] at h1 ⊢
      split at h1
      · rename_i ej Sj hj
        have hSj : Sj ≠ [] := by obtain ⟨_, _, n, _⟩ := evOper_shape hj; exact n hS
        rw [← List.filterMap_append, ← hB] at h1
        obtain ⟨e3, h3, h4⟩ := ih (t / (Region.ready .any ops listed).length) (listed.setIfInBounds i true) ej e2 Sj S1 (by simpa using hsz) (by
            rw [hB]; rw [hA] at hf; simp at hf ⊢; omega) hSj (fun k qs hk hkl hq x hx => by
            by_cases hki : k = i
            · subst hki
              cases hps.symm.trans hq
              have := hcl0 x hx
              by_cases hxi : k = x
              · subst hxi; simp [hsz, hkl]
              · rw [getD_set_ne true hxi]; exact this
            · rw [getD_set_ne true (Ne.symm hki)] at hk
              have := hcl k qs hk hkl hq x hx
              by_cases hxi : i = x
              · subst hxi; rw [this] at hun; cases hun
              · rw [getD_set_ne true hxi]; exact this) h1
        exact ⟨e3, h3, h2.trans h4⟩
      · rename_i hno
        exact absurd h1 (hno _ _)
end Go.AS
