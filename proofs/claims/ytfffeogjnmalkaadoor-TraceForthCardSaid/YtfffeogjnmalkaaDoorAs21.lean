import Derived.Orders
import Derived.Test.YtfffeogjnmalkaaDoorAs18
set_option linter.all false
/-
  Orders. By an AI agent.
-/
namespace Go.AS
open Go
set_option maxHeartbeats 1000000

theorem Same.refl (e : Env) : Same e e := fun _ => rfl
theorem Same.symm {e e' : Env} (h : Same e e') : Same e' e := fun i => (h i).symm
theorem Same.trans {a b c : Env} (h : Same a b) (k : Same b c) : Same a c := fun i => (h i).trans (k i)

theorem memN_iff {x : Nat} : ∀ {l : List Nat}, memN x l = true ↔ x ∈ l
  | [] => by simp [memN]
  | y :: r => by
    simp only [memN, Bool.or_eq_true, memN_iff (l := r), List.mem_cons]
    exact or_congr ⟨fun h => Nat.eq_of_beq_eq_true h, fun h => by subst h; exact nbeq_self _⟩ Iff.rfl

theorem memNs_false {xs ys : List Nat} (h : memNs xs ys = false) : ∀ x ∈ xs, x ∉ ys := fun x hx hy => by
  have : memNs xs ys = true := List.any_eq_true.2 ⟨x, hx, memN_iff.2 hy⟩
  rw [h] at this; cases this

theorem pairOk_spec {x y : IOper} (h : pairOk x y = true) : (∀ d, x.dst = some d → d ∉ looks y) ∧ (∀ d, x.dst = some d → y.dst ≠ some d) ∧ (∀ d, y.dst = some d → d ∉ looks x) ∧
    (classOf x.op = 0 ∨ classOf y.op = 0 ∨ (classOf x.op ≤ 1 ∧ classOf y.op ≤ 1)) := by
  simp only [pairOk, Bool.and_eq_true, Bool.not_eq_true', Bool.or_eq_true] at h
  obtain ⟨⟨⟨h1, h2⟩, h3⟩, h4⟩ := h
  refine ⟨fun d hd => memNs_false h1 d (by simp [hd, optD]), fun d hd hy => memNs_false h2 d (by simp [hd, optD]) (by simp [hy, optD]), fun d hd => memNs_false h3 d (by simp [hd, optD]), ?_⟩
  rcases h4 with (h4 | h4) | h4
  · exact .inl (Nat.eq_of_beq_eq_true h4)
  · exact .inr (.inl (Nat.eq_of_beq_eq_true h4))
  · exact .inr (.inr ⟨Nat.le_of_ble_eq_true h4.1, Nat.le_of_ble_eq_true h4.2⟩)

theorem putD_agree {e : Env} {d : Option Nat} {v : AV} {l : List Nat} (h : ∀ i, d = some i → i ∉ l) : ∀ t ∈ l, Env.get (putD e d v) t = Env.get e t := fun t ht => by
  rw [get_putD, if_neg fun hd => h t hd ht]

theorem swap {call : CallT} {x y : IOper} (hp : pairOk x y = true) {e e1 e2 : Env} {S S1 S2 : Stack} (hS : S ≠ []) (hx : evOper call x e S = some (.go e1 S1)) (hy : evOper call y e1 S1 = some (.go e2 S2)) :
    ∃ e1' S1' e2', evOper call y e S = some (.go e1' S1') ∧ evOper call x e1' S1' = some (.go e2' S2) ∧ Same e2 e2' := by
  obtain ⟨p1, p2, p3, p4⟩ := pairOk_spec hp
  obtain ⟨v, rfl, n1, a1, c1, r1⟩ := evOper_shape hx
  obtain ⟨u, rfl, n2, a2, c2, r2⟩ := evOper_shape hy
  have hy' := a2 e fun t ht => (putD_agree p1 t ht).symm
  have hsame : Same (putD (putD e x.dst v) y.dst u) (putD (putD e y.dst u) x.dst v) := fun i => by
    simp only [get_putD]
    by_cases h1 : y.dst = some i
    · rw [if_pos h1, if_neg fun h => p2 i h h1, if_pos h1]
    · rw [if_neg h1, if_neg h1]
  by_cases hx0 : classOf x.op = 0
  · obtain ⟨rfl, c1⟩ := c1 hx0
    refine ⟨_, _, _, hy', ?_, hsame⟩
    -- the value is the same one
    have h4 := (evOper_shape (a1 (putD e y.dst u) fun t ht => putD_agree p3 t ht))
    obtain ⟨w, hw, _, _, c4, _⟩ := h4
    have := (c4 hx0).2 S2 (n2 hS)
    rw [this, ← hw]
  · by_cases hy0 : classOf y.op = 0
    · obtain ⟨rfl, c2⟩ := c2 hy0
      have h3 := (evOper_shape hy')
      obtain ⟨w, hw, _, _, c3, _⟩ := h3
      have h5 := (c3 hy0).2 S hS
      rw [← hw] at h5
      exact ⟨_, _, _, h5, a1 _ fun t ht => putD_agree p3 t ht, hsame⟩
    · have hb : classOf x.op = 1 ∧ classOf y.op = 1 := by omega
      have e1 := r1 hb.1
      have e2 := r2 hb.2
      subst e1
      subst e2
      exact ⟨_, _, _, hy', a1 _ fun t ht => putD_agree p3 t ht, hsame⟩


/-! ### A load that changes its place with a store to another object -/
def apartV : AV → AV → Prop
  | .ptr i _ _, .ptr j _ _ => i ≠ j
  | .ptr i _ _, .ref j _ _ _ _ _ _ => i ≠ j
  | .ptr i _ _, .map j => i ≠ j
  | .ptr .., .imm .. => True
  | .iptr .., _ => True
  | _, _ => False
def dsts (l : List IOper) : List Nat := l.flatMap fun o => optD o.dst
theorem evOps_get {call : CallT} {t : Nat} : ∀ {l : List IOper} {e e1 : Env} {S S1 : Stack}, evOps call l e S = some (.go e1 S1) → t ∉ dsts l → Env.get e1 t = Env.get e t
  | [], e, e1, S, S1, h, _ => by
    simp only [evOps, Option.some.injEq, OR.go.injEq] at h
    rw [h.1]
  | o :: r, e, e1, S, S1, h, ht => by
    simp only [evOps] at h
    simp only [dsts, List.flatMap_cons, List.mem_append, not_or] at ht
    split at h
    · rename_i e2 S2 ho
      obtain ⟨v, rfl, _⟩ := evOper_shape ho
      rw [evOps_get h ht.2, get_putD, if_neg fun hd => ht.1 (by simp [hd, optD])]
    · rename_i hno
      exact absurd h (hno _ _)
theorem load_other {e : Env} {H H1 H2 : Heap} {n : Option Nat} {ax : Opd} {v : AV} (h : evOp e H (.load n ax) = some (v, H1)) (hk : ∀ id lim off, ax.ev e = .ptr id lim off → H[id]? ≠ none → H2[id]? = H[id]?) : evOp e H2 (.load n ax) = some (v, H2) := by
  simp only [evOp] at h ⊢
  split at h
  · rename_i id lim off hx
    split at h
    · rename_i cs hc
      have := hk id lim off hx (by rw [hc]; simp)
      rw [this, hc]
      simp only
      cases hb : Nat.beq cs.length lim with
      | false => rw [hb] at h; cases h
      | true =>
        rw [hb] at h
        simp only [cond_true, Option.map_eq_some_iff, Prod.mk.injEq] at h ⊢
        obtain ⟨y, h1, h2, _⟩ := h
        exact ⟨y, h1, h2, trivial⟩
    · cases h
  · simp only [Option.map_eq_some_iff, Prod.mk.injEq] at h ⊢
    obtain ⟨y, h1, h2, _⟩ := h
    exact ⟨y, h1, h2, trivial⟩
  · cases h
theorem evOper_plain {call : CallT} {o : IOper} {e e1 : Env} {S S1 : Stack} (hg : o.guard = none) (hop : (∃ n x, o.op = .load n x) ∨ (∃ m a x, o.op = .store m a x) ∨ ∃ z, o.op = .alloc z) :
    evOper call o e S = some (.go e1 S1) ↔ ∃ H S0 v H', S = H :: S0 ∧ evOp e H o.op = some (v, H') ∧ e1 = putD e o.dst v ∧ S1 = H' :: S0 := by
  unfold evOper
  rw [hg]
  simp only [guardA]
  rcases hop with ⟨n, x, h⟩ | ⟨m, a, x, h⟩ | ⟨z, h⟩
  all_goals
    rw [h]
    simp only
    cases S with
    | nil => simp
    | cons H S0 =>
      simp only
      constructor
      · intro hh
        split at hh
        · rename_i v H' hv
          simp only [Option.some.injEq, OR.go.injEq] at hh
          exact ⟨H, S0, v, H', rfl, hv, hh.1.symm, hh.2.symm⟩
        · cases hh
      · rintro ⟨H1, S1', v, H', h1, h2, rfl, rfl⟩
        cases h1
        rw [h2]
/-- A load, whether it is done or not, in a memory that is the same there. -/
theorem load_in {call : CallT} {x : IOper} {n : Option Nat} {ax : Opd} (hx : x.op = .load n ax) {e e1 : Env} {H H1 H2 : Heap} {S0 S1 : Stack} (h : evOper call x e (H :: S0) = some (.go e1 (H1 :: S1)))
    (hk : guardA e x.guard = some true → ∀ id lim off, ax.ev e = .ptr id lim off → H[id]? ≠ none → H2[id]? = H[id]?) : evOper call x e (H2 :: S0) = some (.go e1 (H2 :: S0)) := by
  unfold evOper at h ⊢
  cases hg : guardA e x.guard with
  | none => rw [hg] at h; cases h
  | some b =>
    rw [hg] at h
    cases b with
    | false =>
      simp only [Option.some.injEq, OR.go.injEq] at h ⊢
      exact ⟨h.1, trivial⟩
    | true =>
      simp only [hx] at h ⊢
      split at h
      · rename_i v H' hv
        simp only [Option.some.injEq, OR.go.injEq] at h
        have := load_other (H2 := H2) hv (hk hg)
        rw [this]
        simp only [Option.some.injEq, OR.go.injEq]
        exact ⟨h.1, trivial⟩
      · cases h
theorem set_ne_get {H : Heap} {i j : Nat} {o : AObj} (h : i ≠ j) : (H.set j o)[i]? = H[i]? := List.getElem?_set_ne (Ne.symm h)
theorem push_get {H : Heap} {i : Nat} {o : AObj} (h : i ≠ H.length) (h2 : H[i]? ≠ none ∨ (H ++ [o])[i]? ≠ none) : (H ++ [o])[i]? = H[i]? := by
  rcases Nat.lt_or_ge i H.length with hl | hl
  · exact List.getElem?_append_left hl
  · rcases h2 with h2 | h2
    · exact absurd (List.getElem?_eq_none hl) h2
    · exact absurd (List.getElem?_eq_none (by simp; omega)) h2
/-- What an operation leaves as it is, that gives back the only object that it touches. -/
theorem appendA_touch {es bytes : Nat} {s x v : AV} {H H' : Heap} (h : appendA es bytes s x H = some (v, H')) {i lim off : Nat} (ha : apartV (.ptr i lim off) v) (hn : H[i]? ≠ none ∨ H'[i]? ≠ none) : H'[i]? = H[i]? := by
  simp only [appendA] at h
  split at h
  · rename_i m new hm hnew
    split at h
    · rename_i nl es' len cap cs
      cases hb : (!(Nat.beq es es' || Nat.beq len 0)) with
      | true => rw [hb] at h; cases h
      | false =>
        rw [hb] at h
        simp only [cond_false] at h
        cases hb2 : Nat.beq m 0 with
        | true => rw [hb2] at h; cases h; rfl
        | false =>
          rw [hb2] at h
          simp only [cond_false] at h
          split at h
          · cases h
          · rename_i c
            cases hb3 : (Nat.ble (len + m) c || !(room bytes (len + m))) with
            | true => rw [hb3] at h; cases h
            | false =>
              rw [hb3] at h
              simp only [cond_false, Option.some.injEq, Prod.mk.injEq] at h
              obtain ⟨rfl, rfl⟩ := h
              exact push_get ha hn
    · rename_i id lim' off' es' len cap ex
      split at h
      · rename_i cs hid
        generalize (!(Nat.beq cs.length lim') || !(Nat.beq es es')) = q1 at h
        generalize Nat.ble (len + m) cap = q2 at h
        generalize Nat.ble (off' + (len + m) * es) lim' = q3 at h
        generalize (!(room bytes (len + m))) = q4 at h
        generalize Nat.ble (off' + len * es) lim' = q5 at h
        generalize (Nat.beq off' 0 && Nat.beq (cap * es) lim' && Nat.blt 0 es) = q6 at h
        cases q1 with
        | true => cases h
        | false =>
        cases q2 with
        | true =>
          cases q3 with
          | false => cases h
          | true =>
            simp only [cond_false, cond_true, Option.some.injEq, Prod.mk.injEq] at h
            obtain ⟨rfl, rfl⟩ := h
            exact set_ne_get ha
        | false =>
          cases q4 with
          | true => cases h
          | false =>
          cases ex with
          | true =>
            cases q5 with
            | false => cases h
            | true =>
              simp only [cond_false, cond_true, Option.some.injEq, Prod.mk.injEq] at h
              obtain ⟨rfl, rfl⟩ := h
              exact push_get ha hn
          | false =>
            cases q6 with
            | false => cases h
            | true =>
              simp only [cond_false, cond_true, Option.some.injEq, Prod.mk.injEq] at h
              obtain ⟨rfl, rfl⟩ := h
              exact set_ne_get ha
      · cases h
    · cases h
  · cases h
theorem evOper_touch {call : CallT} {o : IOper} (hg : o.guard = none) (hw : isW o.op = true) {e e1 : Env} {H : Heap} {S0 S1 : Stack} (h : evOper call o e (H :: S0) = some (.go e1 S1)) :
    ∃ v H', e1 = putD e o.dst v ∧ S1 = H' :: S0 ∧ ∀ i lim off, apartV (.ptr i lim off) v → (H[i]? ≠ none ∨ H'[i]? ≠ none) → H'[i]? = H[i]? := by
  unfold evOper at h
  simp only [hg, guardA] at h
  cases ho : o.op with
  | callf f azs =>
    simp only [ho] at h
    cases hf : hfrees (evs e azs) with
    | false => rw [hf] at h; cases h
    | true =>
      rw [hf] at h
      simp only [cond_true] at h
      split at h
      · rename_i r H1 hcl
        split at h
        · rename_i r' H2 hfr
          simp only [Option.some.injEq, OR.go.injEq] at h
          obtain ⟨rfl, rfl⟩ := h
          refine ⟨r', H2, rfl, rfl, fun i lim off ha hn => ?_⟩
          unfold fresh at hfr
          split at hfr
          · rename_i id lim' off' es len cap ex
            split at hfr
            · rename_i cs hid
              generalize (Nat.beq cs.length lim' && hfrees cs) = q at hfr
              cases q
              · cases hfr
              · simp only [cond_true, Option.some.injEq, Prod.mk.injEq] at hfr
                obtain ⟨rfl, rfl⟩ := hfr
                exact push_get ha hn
            · cases hfr
          · split at hfr
            · rename_i r2 hlv
              cases hq : hfree r2
              · rw [hq] at hfr; cases hfr
              · rw [hq] at hfr; simp only [cond_true, Option.some.injEq, Prod.mk.injEq] at hfr
                rw [hfr.2]
            · cases hfr
        · cases h
      · cases h
  | append es b s x =>
    simp only [ho, evOp] at h
    split at h
    · rename_i v H' hv
      simp only [Option.some.injEq, OR.go.injEq] at h
      obtain ⟨rfl, rfl⟩ := h
      exact ⟨v, H', rfl, rfl, fun i lim off ha hn => appendA_touch hv ha hn⟩
    · cases h
  | appz es b z s x =>
    simp only [ho, evOp] at h
    split at h
    · rename_i v H' hv
      simp only [Option.some.injEq, OR.go.injEq] at h
      obtain ⟨rfl, rfl⟩ := h
      refine ⟨v, H', rfl, rfl, fun i lim off ha hn => ?_⟩
      split at hv
      · rename_i k n _
        generalize (decide (0 ≤ n) && Nat.ble n.toNat maxInt && Nat.ble (n.toNat * b) roomMost) = q at hv
        cases q
        · cases hv
        · exact appendA_touch hv ha hn
      · cases hv
    · cases h
  | box n x =>
    simp only [ho, evOp] at h
    split at h
    · rename_i v H' hv
      simp only [Option.some.injEq, OR.go.injEq] at h
      obtain ⟨rfl, rfl⟩ := h
      split at hv
      · rename_i cs _
        cases hq : Nat.beq cs.length n with
        | false => rw [hq] at hv; cases hv
        | true =>
          rw [hq] at hv
          obtain ⟨rfl, rfl⟩ := ok_inv hv
          exact ⟨_, _, rfl, rfl, fun i lim off ha hn => push_get ha hn⟩
      · cases hv
    · cases h
  | allocA d z =>
    simp only [ho, evOp] at h
    split at h
    · rename_i v H' hv
      simp only [Option.some.injEq, OR.go.injEq] at h
      obtain ⟨rfl, rfl⟩ := h
      split at hv
      · cases hq : Nat.ble d H.length with
        | false => rw [hq] at hv; cases hv
        | true =>
          rw [hq] at hv
          obtain ⟨rfl, rfl⟩ := ok_inv hv
          exact ⟨_, _, rfl, rfl, fun i lim off ha hn => set_ne_get ha⟩
      · cases hv
    · cases h
  | alloc z =>
    simp only [ho, evOp, ok, Option.some.injEq, OR.go.injEq] at h
    obtain ⟨rfl, rfl⟩ := h
    exact ⟨_, _, rfl, rfl, fun i lim off ha hn => push_get ha hn⟩
  | mkmap =>
    simp only [ho, evOp, ok, Option.some.injEq, OR.go.injEq] at h
    obtain ⟨rfl, rfl⟩ := h
    exact ⟨_, _, rfl, rfl, fun i lim off ha hn => push_get ha hn⟩
  | mksl es b z l c =>
    simp only [ho, evOp] at h
    split at h
    · rename_i v H' hv
      simp only [Option.some.injEq, OR.go.injEq] at h
      obtain ⟨rfl, rfl⟩ := h
      split at hv
      · rename_i k1 n1 k2 n2 _ _
        generalize (decide (0 ≤ n1) && decide (n1 ≤ n2) && Nat.ble (n2.toNat * b) roomMost && Nat.ble n2.toNat maxInt) = q at hv
        cases q
        · cases hv
        · simp only [cond_true] at hv
          obtain ⟨rfl, rfl⟩ := ok_inv hv
          exact ⟨_, _, rfl, rfl, fun i lim off ha hn => push_get ha hn⟩
      · cases hv
    · cases h
  | bsl mt es n z ps =>
    simp only [ho, evOp] at h
    have hmt : mt = true := by rw [ho] at hw; exact hw
    subst hmt
    split at h
    · rename_i v H' hv
      simp only [Option.some.injEq, OR.go.injEq] at h
      obtain ⟨rfl, rfl⟩ := h
      split at hv
      · simp only [cond_true] at hv
        obtain ⟨rfl, rfl⟩ := ok_inv hv
        exact ⟨_, _, rfl, rfl, fun i lim off ha hn => push_get ha hn⟩
      · cases hv
    · cases h
  | _ => rw [ho] at hw; cases hw
/-- Two operations that change places, though one writes. -/
def DynAt (e1 : Env) (x y : IOper) (A B : List IOper) : Prop :=
  (∀ d, x.dst = some d → d ∉ looks y) ∧ (∀ d, x.dst = some d → y.dst ≠ some d) ∧ (∀ d, y.dst = some d → d ∉ looks x) ∧
  ((∃ n tx m tj v, x.op = .load n (.t tx) ∧ y.op = .store m (.t tj) v ∧ y.guard = none ∧ tx ∉ dsts (x :: A ++ y :: B) ∧ tj ∉ dsts (x :: A ++ y :: B) ∧ (∀ j w, x.guard = some (j, w) → j ∉ dsts (x :: A ++ y :: B)) ∧ (guardA e1 x.guard = some true → apartV (Env.get e1 tx) (Env.get e1 tj))) ∨
   (∃ n ax z, x.op = .load n ax ∧ y.op = .alloc z ∧ y.guard = none) ∨
   (∃ d1 z1 d2 z2, x.op = .allocA d1 z1 ∧ y.op = .allocA d2 z2 ∧ y.guard = none ∧ x.guard = none ∧ d1 ≠ d2) ∨
   (∃ n tx d, x.op = .load n (.t tx) ∧ isW y.op = true ∧ y.guard = none ∧ y.dst = some d ∧ d ∉ dsts (A ++ B) ∧ tx ∉ dsts (x :: A ++ y :: B) ∧ (∀ j w, x.guard = some (j, w) → j ∉ dsts (x :: A ++ y :: B)) ∧ (guardA e1 x.guard = some true → apartV (Env.get e1 tx) (Env.get e1 d))) ∨
   (∃ n tx d, y.op = .load n (.t tx) ∧ isW x.op = true ∧ x.guard = none ∧ x.dst = some d ∧ d ∉ dsts (A ++ y :: B) ∧ tx ∉ dsts (x :: A ++ y :: B) ∧ (∀ j w, y.guard = some (j, w) → j ∉ dsts (x :: A ++ y :: B)) ∧ (guardA e1 y.guard = some true → apartV (Env.get e1 tx) (Env.get e1 d))))
theorem swapD {call : CallT} {x y : IOper} {e e1 e2 ef : Env} {S S1 S2 : Stack} {A B : List IOper} (hp : DynAt ef x y A B) (hft : ∀ t, t ∉ dsts (x :: A ++ y :: B) → Env.get ef t = Env.get e t) (hft1 : ∀ t, t ∉ dsts (A ++ y :: B) → Env.get ef t = Env.get e1 t) (hft2 : ∀ t, t ∉ dsts (A ++ B) → Env.get ef t = Env.get e2 t)
    (hS : S ≠ []) (hx : evOper call x e S = some (.go e1 S1)) (hy : evOper call y e1 S1 = some (.go e2 S2)) :
    ∃ e1' S1' e2', evOper call y e S = some (.go e1' S1') ∧ evOper call x e1' S1' = some (.go e2' S2) ∧ Same e2 e2' := by
  obtain ⟨p1, p2, p3, p4⟩ := hp
  have hx0 := hx
  have hy0 := hy
  obtain ⟨v, rfl, n1, a1, c1, r1⟩ := evOper_shape hx
  obtain ⟨u, rfl, n2, a2, c2, r2⟩ := evOper_shape hy
  have hy' := a2 e fun t ht => (putD_agree p1 t ht).symm
  have hsame : Same (putD (putD e x.dst v) y.dst u) (putD (putD e y.dst u) x.dst v) := fun i => by
    simp only [get_putD]
    by_cases h1 : y.dst = some i
    · rw [if_pos h1, if_neg fun h => p2 i h h1, if_pos h1]
    · rw [if_neg h1, if_neg h1]
  have hguard : ∀ (z : IOper), (∀ j w, z.guard = some (j, w) → j ∉ dsts (x :: A ++ y :: B)) → guardA ef z.guard = guardA e z.guard := fun z hz => by
    cases hg : z.guard with
    | none => rfl
    | some p =>
      obtain ⟨j, w⟩ := p
      simp only [guardA, hft j (hz j w hg)]
  rcases p4 with p4 | p4 | p4 | p4 | p4
  rotate_left 2
  · obtain ⟨d1, z1, d2, z2, q1, q2, q3, q4, q5⟩ := p4
    cases S with
    | nil => exact absurd rfl hS
    | cons H S0 =>
    have hA : ∀ {o : IOper} {d : Nat} {z : List AV} {e e1 : Env} {H : Heap} {S0 S1 : Stack}, o.op = .allocA d z → o.guard = none → (evOper call o e (H :: S0) = some (.go e1 S1) ↔ d ≤ H.length ∧ H[H.length - d]? = some .slot ∧ e1 = putD e o.dst (.ptr (H.length - d) z.length 0) ∧ S1 = H.set (H.length - d) (.cells z) :: S0) := by
      intro o d z e e1 H S0 S1 h1 h2
      unfold evOper
      simp only [h2, guardA, h1, evOp]
      constructor
      · intro h
        split at h
        · rename_i v H' hv
          split at hv
          · rename_i hs
            cases hb : Nat.ble d H.length with
            | false => rw [hb] at hv; cases hv
            | true =>
              rw [hb] at hv
              obtain ⟨rfl, rfl⟩ := ok_inv hv
              simp only [Option.some.injEq, OR.go.injEq] at h
              exact ⟨Nat.le_of_ble_eq_true hb, hs, h.1.symm, h.2.symm⟩
          · cases hv
        · cases h
      · rintro ⟨h3, h4, rfl, rfl⟩
        rw [h4]
        simp only [Nat.ble_eq_true_of_le h3, cond_true, ok]
    obtain ⟨k1, k2, k3, k4⟩ := (hA q1 q4).1 hx0
    subst k4
    obtain ⟨l1, l2, l3, l4⟩ := (hA q2 q3).1 hy0
    rw [List.length_set] at l1 l2 l3 l4
    have hne : H.length - d1 ≠ H.length - d2 := by
      have h1 : 0 < d1 := by
        rcases Nat.eq_zero_or_pos d1 with h | h
        · subst h; rw [List.getElem?_eq_none (by omega)] at k2; cases k2
        · exact h
      omega
    rw [List.getElem?_set_ne hne] at l2
    refine ⟨_, _, _, (hA q2 q3).2 ⟨l1, l2, rfl, rfl⟩, (hA q1 q4).2 ⟨by rw [List.length_set]; exact k1, by rw [List.length_set, List.getElem?_set_ne (Ne.symm hne)]; exact k2, rfl, ?_⟩, ?_⟩
    · rw [l4, List.length_set, List.set_comm _ _ hne]
    · rw [l3, List.length_set]
      have h5 := l3
      have e1 : putD e x.dst v = putD e x.dst (.ptr (H.length - d1) z1.length 0) := k3
      rw [e1]
      intro i
      simp only [get_putD]
      by_cases h1 : y.dst = some i
      · rw [if_pos h1, if_neg fun h => p2 i h h1, if_pos h1]
      · rw [if_neg h1, if_neg h1]
  rotate_left 1
  · -- a load behind
    obtain ⟨n, tx, d, q1, q2, q3, q4, q5, q6, q8, q7⟩ := p4
    cases S with
    | nil => exact absurd rfl hS
    | cons H S0 =>
    obtain ⟨v', H', k1, rfl, k3⟩ := evOper_touch q3 q2 hx0
    have hv : v' = v := by
      have := congrArg (fun e => Env.get e d) k1
      simp only [get_putD, q4, if_true] at this
      exact this.symm
    subst hv
    have hd : Env.get ef d = v' := by rw [hft1 d q5, get_putD, if_pos q4]
    have hS2 : S2 = H' :: S0 := r2 (by rw [q1]; rfl)
    subst hS2
    have hyH : evOper call y e (H :: S0) = some (.go (putD e y.dst u) (H :: S0)) := by
      refine load_in q1 hy' fun hg id lim off hid hne => ?_
      have q7 := q7 ((hguard y q8).trans hg)
      rw [hft tx q6, hd] at q7
      have e1 : Env.get e tx = .ptr id lim off := hid
      rw [e1] at q7
      exact (k3 id lim off q7 (.inr hne)).symm
    exact ⟨_, _, _, hyH, a1 _ fun t ht => putD_agree p3 t ht, hsame⟩
  all_goals
    obtain ⟨n, ax, hxo⟩ : ∃ n ax, x.op = .load n ax := by
      first
        | (obtain ⟨n, tx, _, _, _, h, _⟩ := p4; exact ⟨n, _, h⟩)
        | (obtain ⟨n, ax, _, h, _⟩ := p4; exact ⟨n, _, h⟩)
    have hS1 : S1 = S := r1 (by rw [hxo]; rfl)
    subst hS1
    refine ⟨_, _, _, hy', ?_, hsame⟩
    obtain ⟨H, S0, rfl⟩ : ∃ H S0, S1 = H :: S0 := by
      cases S1 with
      | nil => exact absurd rfl hS
      | cons a b => exact ⟨a, b, rfl⟩
    have hev : evOper call x (putD e y.dst u) (H :: S0) = some (.go (putD (putD e y.dst u) x.dst v) (H :: S0)) := a1 (putD e y.dst u) fun t ht => putD_agree p3 t ht
    have hax : ax.ev (putD e y.dst u) = ax.ev e := ev_agree (l := [ax]) (fun t ht => putD_agree p3 t (by simp only [looks, hxo, opds]; exact List.mem_append_left _ ht)) ax (by simp)
    have hgx : guardA (putD e y.dst u) x.guard = guardA e x.guard := by
      cases hg : x.guard with
      | none => rfl
      | some p =>
        obtain ⟨j, w⟩ := p
        simp only [guardA, putD_agree p3 j (by simp [looks, hg, optD])]
    suffices hyl : ∃ H2, S2 = H2 :: S0 ∧ (guardA e x.guard = some true → ∀ id lim off, ax.ev e = .ptr id lim off → H[id]? ≠ none → H2[id]? = H[id]?) by
      obtain ⟨H2, rfl, hk⟩ := hyl
      exact load_in hxo hev (fun hg id lim off hid hne => hk (hgx ▸ hg) id lim off (hax ▸ hid) hne)
  · obtain ⟨n, tx, m, tj, w, q1, q3, q4, q5, q6, q8, q7⟩ := p4
    obtain ⟨H3, S3, v3, H3', k1, k2, k3, k4⟩ := (evOper_plain q4 (.inr (.inl ⟨m, _, w, q3⟩))).1 hy'
    cases k1
    refine ⟨H3', k4, fun hgd id lim off hid hne => ?_⟩
    rw [q3] at k2
    rw [hxo] at q1
    cases q1
    simp only [evOp] at k2
    split at k2
    · rename_i id2 lim2 off2 vs ha hb
      split at k2
      · rename_i cs hc
        cases hbb : (Nat.beq cs.length lim2 && Nat.beq vs.length m && Nat.ble (off2 + m) lim2) with
        | false => rw [hbb] at k2; cases k2
        | true =>
          rw [hbb] at k2
          simp only [cond_true, ok, Option.some.injEq, Prod.mk.injEq] at k2
          rw [← k2.2]
          have q7 := q7 ((hguard x q8).trans hgd)
          rw [hft tx q5, hft tj q6] at q7
          have e1 : Env.get e tx = .ptr id lim off := hid
          have e2 : Env.get e tj = .ptr id2 lim2 off2 := ha
          rw [e1, e2] at q7
          exact List.getElem?_set_ne (Ne.symm q7)
      · cases k2
    · cases k2
  · obtain ⟨n, ax', z, q1, q3, q4⟩ := p4
    obtain ⟨H3, S3, v3, H3', k1, k2, k3, k4⟩ := (evOper_plain q4 (.inr (.inr ⟨z, q3⟩))).1 hy'
    cases k1
    rw [q3] at k2
    simp only [evOp, ok, Option.some.injEq, Prod.mk.injEq] at k2
    refine ⟨H3', k4, fun _ id lim off _ hne => ?_⟩
    rw [← k2.2]
    have : id < H.length := by
      rcases Nat.lt_or_ge id H.length with h | h
      · exact h
      · exact absurd (List.getElem?_eq_none h) hne
    exact List.getElem?_append_left this
  · obtain ⟨n, tx, d, q1, q2, q3, q4, q5, q6, q8, q7⟩ := p4
    obtain ⟨u', H', k1, k2, k3⟩ := evOper_touch q3 q2 hy'
    have hu : u' = u := by
      have := congrArg (fun e => Env.get e d) k1
      simp only [get_putD, q4, if_true] at this
      exact this.symm
    subst hu
    refine ⟨H', k2, fun hgd id lim off hid hne => ?_⟩
    rw [hxo] at q1
    cases q1
    have q7 := q7 ((hguard x q8).trans hgd)
    rw [hft tx q6, hft2 d q5, get_putD, if_pos q4] at q7
    have e1 : Env.get e tx = .ptr id lim off := hid
    rw [e1] at q7
    exact k3 id lim off q7 (.inl hne)

theorem evOps_same {call : CallT} : ∀ {l : List IOper} {e e' e1 : Env} {S S1 : Stack}, evOps call l e S = some (.go e1 S1) → Same e e' → ∃ e1', evOps call l e' S = some (.go e1' S1) ∧ Same e1 e1'
  | [], e, e', e1, S, S1, h, hs => by
    simp only [evOps, Option.some.injEq, OR.go.injEq] at h
    obtain ⟨rfl, rfl⟩ := h
    exact ⟨e', rfl, hs⟩
  | o :: r, e, e', e1, S, S1, h, hs => by
    simp only [evOps] at h
    split at h
    · rename_i e2 S2 ho
      obtain ⟨v, rfl, _, a, _⟩ := evOper_shape ho
      have ho' := a e' fun t _ => (hs t).symm
      obtain ⟨e1', h1, h2⟩ := evOps_same h (e' := putD e' o.dst v) fun i => by rw [get_putD, get_putD, hs i]
      exact ⟨e1', by simp only [evOps, ho', h1], h2⟩
    · rename_i hno
      exact absurd h (hno _ _)

theorem evOps_move {call : CallT} {j : IOper} {B : List IOper} {ef : Env} : ∀ {A : List IOper} {e e1 : Env} {S S1 : Stack}, (∀ A1 x A2, A = A1 ++ x :: A2 → pairOk x j = true ∨ DynAt ef x j A2 B) → S ≠ [] → Same e1 ef → evOps call (A ++ j :: B) e S = some (.go e1 S1) → ∃ e1', evOps call (j :: (A ++ B)) e S = some (.go e1' S1) ∧ Same e1 e1'
  | [], e, e1, S, S1, _, _, _, h => ⟨e1, h, .refl _⟩
  | x :: A, e, e1, S, S1, hp, hS, hef, h => by
    have h0 := h
    simp only [List.cons_append, evOps] at h
    split at h
    · rename_i ex Sx hx
      have hSx : Sx ≠ [] := by obtain ⟨_, _, n, _⟩ := evOper_shape hx; exact n hS
      obtain ⟨e1', h1, h2⟩ := evOps_move (fun A1 y A2 hy => hp (x :: A1) y A2 (by rw [hy]; rfl)) hSx hef h
      simp only [evOps] at h1
      split at h1
      · rename_i ej Sj hj
        have hsw : ∃ e1' S1' e2', evOper call j e S = some (.go e1' S1') ∧ evOper call x e1' S1' = some (.go e2' Sj) ∧ Same ej e2' := by
          rcases hp [] x A rfl with hp | hp
          · exact swap hp hS hx hj
          · refine swapD hp (fun t ht => ?_) (fun t ht => ?_) (fun t ht => ?_) hS hx hj
            · rw [← hef t]
              exact evOps_get h0 ht
            · rw [← hef t]
              exact evOps_get h ht
            · rw [← hef t, h2 t]
              exact evOps_get h1 ht
        obtain ⟨ea, Sa, eb, k1, k2, k3⟩ := hsw
        obtain ⟨e3, k4, k5⟩ := evOps_same h1 k3
        exact ⟨e3, by simp only [List.cons_append, evOps, k1, k2, k4], h2.trans k5⟩
      · rename_i hno
        exact absurd h1 (hno _ _)
    · rename_i hno
      exact absurd h (hno _ _)

/-! ### What drawOk says -/
theorem binding_iff (e : Edge) : binding e = Region.binds .any e := by
  unfold binding Region.binds
  cases e.ground <;> rfl

theorem mem_bitsTo {m i : Nat} : ∀ {k : Nat}, i ∈ bitsTo m k ↔ i < k ∧ Nat.testBit m i = true
  | 0 => by simp [bitsTo]
  | k + 1 => by
    have ih := mem_bitsTo (m := m) (i := i) (k := k)
    simp only [bitsTo]
    cases h : Nat.testBit m k with
    | true =>
      simp only [cond_true, List.mem_cons, ih]
      constructor
      · rintro (rfl | ⟨h1, h2⟩)
        · exact ⟨by omega, h⟩
        · exact ⟨by omega, h2⟩
      · rintro ⟨h1, h2⟩
        by_cases he : i = k
        · exact .inl he
        · exact .inr ⟨by omega, h2⟩
    | false =>
      simp only [cond_false, ih]
      constructor
      · rintro ⟨h1, h2⟩; exact ⟨by omega, h2⟩
      · rintro ⟨h1, h2⟩
        refine ⟨?_, h2⟩
        rcases Nat.lt_succ_iff_lt_or_eq.1 h1 with h3 | rfl
        · exact h3
        · rw [h] at h2; cases h2
theorem mem_bitsOf {m i : Nat} : i ∈ bitsOf m ↔ Nat.testBit m i = true := by
  unfold bitsOf
  rw [mem_bitsTo]
  refine ⟨fun h => h.2, fun h => ⟨?_, h⟩⟩
  have h1 : 2 ^ i ≤ m := Nat.ge_two_pow_of_testBit h
  have h2 : m ≠ 0 := by
    intro h0; subst h0; simp at h
  have := (Nat.le_log2 h2).2 h1
  omega
theorem mask_spec {acc : List Nat} {i : Nat} : ∀ {l : List Edge}, Nat.testBit (maskOf acc l) i = true ↔ ∃ ed ∈ l, binding ed = true ∧ (i = ed.on ∨ Nat.testBit (acc.getD ed.on 0) i = true)
  | [] => by simp [maskOf]
  | e :: r => by
    have ih := mask_spec (acc := acc) (i := i) (l := r)
    simp only [maskOf]
    cases hb : binding e with
    | false =>
      simp only [cond_false, ih, List.mem_cons]
      constructor
      · rintro ⟨ed, h1, h2⟩; exact ⟨ed, .inr h1, h2⟩
      · rintro ⟨ed, rfl | h1, h2⟩
        · rw [hb] at h2; cases h2.1
        · exact ⟨ed, h1, h2⟩
    | true =>
      simp only [cond_true]
      have e1 : Nat.testBit (Nat.lor (Nat.lor (Nat.shiftLeft 1 e.on) (acc.getD e.on 0)) (maskOf acc r)) i = true ↔ (i = e.on ∨ Nat.testBit (acc.getD e.on 0) i = true) ∨ Nat.testBit (maskOf acc r) i = true := by
        have h1 : Nat.testBit (Nat.lor (Nat.lor (Nat.shiftLeft 1 e.on) (acc.getD e.on 0)) (maskOf acc r)) i = ((Nat.testBit (1 <<< e.on) i || Nat.testBit (acc.getD e.on 0) i) || Nat.testBit (maskOf acc r) i) := by
          rw [← Nat.testBit_or, ← Nat.testBit_or]; rfl
        rw [h1]
        simp only [Bool.or_eq_true, Nat.one_shiftLeft, Nat.testBit_two_pow, decide_eq_true_eq]
        constructor
        · rintro ((h | h) | h)
          · exact .inl (.inl h.symm)
          · exact .inl (.inr h)
          · exact .inr h
        · rintro ((h | h) | h)
          · exact .inl (.inl h.symm)
          · exact .inl (.inr h)
          · exact .inr h
      rw [e1, ih]
      simp only [List.mem_cons]
      constructor
      · rintro (h | ⟨ed, h1, h2⟩)
        · exact ⟨e, .inl rfl, hb, h⟩
        · exact ⟨ed, .inr h1, h2⟩
      · rintro ⟨ed, rfl | h1, h2⟩
        · exact .inl h2.2
        · exact .inr ⟨ed, h1, h2⟩
theorem aheadM_pre : ∀ (ops : List Oper) (acc : List Nat) (k : Nat), k < acc.length → (aheadM acc ops)[k]? = acc[k]?
  | [], _, _, _ => rfl
  | o :: r, acc, k, h => by
    simp only [aheadM]
    rw [aheadM_pre r _ k (by simp; omega), List.getElem?_append_left h]
theorem aheadM_spec : ∀ (ops : List Oper) (acc : List Nat) (j : Nat) (o : Oper), ops[j]? = some o → ∃ m, (aheadM acc ops)[acc.length + j]? = some m ∧ (∀ ed ∈ o.after, Region.binds .any ed = true → Nat.testBit m ed.on = true) ∧
    ∀ i, Nat.testBit m i = true → ∃ ed ∈ o.after, Region.binds .any ed = true ∧ (i = ed.on ∨ ∃ q, (aheadM acc ops)[ed.on]? = some q ∧ Nat.testBit q i = true)
  | [], _, _, _, h => by simp at h
  | o :: r, acc, 0, o', h => by
    simp only [List.getElem?_cons_zero, Option.some.injEq] at h
    subst h
    simp only [aheadM]
    refine ⟨_, by rw [aheadM_pre r _ _ (by simp), Nat.add_zero, List.getElem?_concat_length], fun ed hed hb => ?_, fun i hi => ?_⟩
    · rw [← binding_iff] at hb
      exact mask_spec.2 ⟨ed, by simpa using hed, hb, .inl rfl⟩
    obtain ⟨ed, h1, h2, h3⟩ := mask_spec.1 hi
    refine ⟨ed, by simpa using h1, (binding_iff ed) ▸ h2, h3.imp id fun h3 => ?_⟩
    rw [List.getD_eq_getElem?_getD] at h3
    cases hq : acc[ed.on]? with
    | none => rw [hq] at h3; simp at h3
    | some q =>
      rw [hq] at h3
      have hlt : ed.on < acc.length := (List.getElem?_eq_some_iff.1 hq).1
      exact ⟨q, by rw [aheadM_pre r _ _ (by simp; omega), List.getElem?_append_left hlt]; exact hq, h3⟩
  | o :: r, acc, j + 1, o', h => by
    simp only [List.getElem?_cons_succ] at h
    simp only [aheadM]
    obtain ⟨m, h1, h0, h2⟩ := aheadM_spec r (acc ++ [maskOf acc o.after.toList]) j o' h
    refine ⟨m, ?_, h0, h2⟩
    rw [← h1]
    congr 1
    simp; omega
theorem aheadOf_spec (ops : List Oper) (_ : List (List Nat)) (j : Nat) (o : Oper) (h : ops[j]? = some o) : ∃ ps, (aheadOf [] ops)[([] : List (List Nat)).length + j]? = some ps ∧ (∀ ed ∈ o.after, Region.binds .any ed = true → ed.on ∈ ps) ∧
    ∀ i ∈ ps, ∃ ed ∈ o.after, Region.binds .any ed = true ∧ (i = ed.on ∨ ∃ qs, (aheadOf [] ops)[ed.on]? = some qs ∧ i ∈ qs) := by
  obtain ⟨m, h1, h0, h2⟩ := aheadM_spec ops [] j o h
  refine ⟨bitsOf m, ?_, fun ed hed hb => mem_bitsOf.2 (h0 ed hed hb), fun i hi => ?_⟩
  · unfold aheadOf
    rw [List.getElem?_map]
    have : (aheadM [] ops)[([] : List (List Nat)).length + j]? = some m := h1
    rw [this]; rfl
  · obtain ⟨ed, k1, k2, k3⟩ := h2 i (mem_bitsOf.1 hi)
    refine ⟨ed, k1, k2, k3.imp id ?_⟩
    rintro ⟨q, q1, q2⟩
    exact ⟨bitsOf q, by unfold aheadOf; rw [List.getElem?_map, q1]; rfl, mem_bitsOf.2 q2⟩

/-- What is asked of two operations. -/
def Asked (ios : List IOper) (K : List IOper) (i : Nat) (x : IOper) (p : IOper × List Nat) : Prop := i ∈ p.2 ∨ pairOk x p.1 = true ∨ (dynOk ios i p.2 x p.1 = true ∧ ∀ o ∈ dynAsk x p.1, o ∈ K)
theorem drawOkFrom_spec {ios : List IOper} {x : IOper} {i : Nat} : ∀ {l : List (IOper × List Nat)}, drawOkFrom ios x i l = true → ∀ p ∈ l, Asked ios (asksFrom x i l) i x p
  | [], _, p, hp => by cases hp
  | (y, ps) :: r, h, p, hp => by
    simp only [drawOkFrom, Bool.and_eq_true, Bool.or_eq_true] at h
    rcases List.mem_cons.1 hp with rfl | hp
    · cases hm : (memN i ps || pairOk x y) with
      | true =>
        simp only [Bool.or_eq_true] at hm
        exact hm.imp memN_iff.1 .inl
      | false =>
        have hm2 := hm
        simp only [Bool.or_eq_false_iff] at hm2
        rcases h.1 with (h1 | h1) | h1
        · rw [hm2.1] at h1; cases h1
        · rw [hm2.2] at h1; cases h1
        · exact .inr (.inr ⟨h1, fun o ho => by simp only [asksFrom, hm, cond_false]; exact List.mem_append_left _ ho⟩)
    · rcases drawOkFrom_spec h.2 p hp with k | k | ⟨k1, k2⟩
      · exact .inl k
      · exact .inr (.inl k)
      · exact .inr (.inr ⟨k1, fun o ho => by simp only [asksFrom]; exact List.mem_append_right _ (k2 o ho)⟩)

theorem drawOkAll_spec {ios : List IOper} : ∀ {l : List (IOper × List Nat)} {i : Nat}, drawOkAll ios i l = true → ∀ (a : Nat) (x : IOper) (ps : List Nat), l[a]? = some (x, ps) →
    (∀ k ∈ ps, k < i + a) ∧ ∀ (b : Nat) (y : IOper) (qs : List Nat), a < b → l[b]? = some (y, qs) → Asked ios (asksAll i l) (i + a) x (y, qs)
  | [], _, _, a, x, ps, h => by simp at h
  | (x', ps') :: r, i, hd, 0, x, ps, h => by
    simp only [List.getElem?_cons_zero, Option.some.injEq, Prod.mk.injEq] at h
    obtain ⟨rfl, rfl⟩ := h
    simp only [drawOkAll, Bool.and_eq_true, List.all_eq_true] at hd
    refine ⟨fun k hk => ?_, fun b y qs hb hy => ?_⟩
    · have := hd.1.1 k hk
      have := Nat.le_of_ble_eq_true this
      omega
    · cases b with
      | zero => omega
      | succ b =>
        simp only [List.getElem?_cons_succ] at hy
        rcases drawOkFrom_spec hd.1.2 _ (List.mem_of_getElem? hy) with k | k | ⟨k1, k2⟩
        · exact .inl k
        · exact .inr (.inl k)
        · exact .inr (.inr ⟨k1, fun o ho => by simp only [asksAll]; exact List.mem_append_left _ (k2 o ho)⟩)
  | (x', ps') :: r, i, hd, a + 1, x, ps, h => by
    simp only [List.getElem?_cons_succ] at h
    simp only [drawOkAll, Bool.and_eq_true] at hd
    obtain ⟨h1, h2⟩ := drawOkAll_spec hd.2 a x ps h
    refine ⟨fun k hk => by have := h1 k hk; omega, fun b y qs hb hy => ?_⟩
    cases b with
    | zero => omega
    | succ b =>
      simp only [List.getElem?_cons_succ] at hy
      have := h2 b y qs (by omega) hy
      rw [show i + 1 + a = i + (a + 1) by omega] at this
      rcases this with k | k | ⟨k1, k2⟩
      · exact .inl k
      · exact .inr (.inl k)
      · exact .inr (.inr ⟨k1, fun o ho => by simp only [asksAll]; exact List.mem_append_right _ (k2 o ho)⟩)

theorem madeOk_spec {t a : Nat} {ps : List Nat} : ∀ {l : List IOper} {c : Nat}, madeOk t a ps c l = true → ∀ k o, l[k]? = some o → o.dst = some t → c + k < a ∨ c + k ∈ ps
  | [], _, _, k, o, h, _ => by simp at h
  | o' :: r, c, hm, 0, o, h, hd => by
    simp only [List.getElem?_cons_zero, Option.some.injEq] at h
    subst h
    simp only [madeOk, hd, Bool.and_eq_true, Bool.or_eq_true, nbeq_self, Bool.not_true] at hm
    rcases hm.1 with (h1 | h1) | h1
    · cases h1
    · exact .inl (Nat.le_of_ble_eq_true h1)
    · exact .inr (memN_iff.1 h1)
  | o' :: r, c, hm, k + 1, o, h, hd => by
    simp only [List.getElem?_cons_succ] at h
    simp only [madeOk, Bool.and_eq_true] at hm
    have := madeOk_spec hm.2 k o h hd
    rwa [show c + 1 + k = c + (k + 1) by omega] at this
/-- What is left, in text order. -/
def left (m : Nat) (listed : Array Bool) : List Nat := (List.range m).filter fun i => !listed.getD i true

theorem cntD_pos {d : Nat} : ∀ {l : List IOper} {i : Nat} {x : IOper}, l[i]? = some x → x.dst = some d → 0 < cntD d l
  | [], i, x, h, _ => by simp at h
  | o :: r, 0, x, h, hd => by
    simp only [List.getElem?_cons_zero, Option.some.injEq] at h
    subst h
    simp [cntD, isD, hd]
  | o :: r, i + 1, x, h, hd => by
    have := cntD_pos (l := r) (i := i) (by simpa using h) hd
    simp only [cntD]
    cases isD d o
    · exact this
    · exact Nat.succ_pos _
theorem cntD_uniq {d : Nat} : ∀ {l : List IOper} {i c : Nat} {x y : IOper}, cntD d l = 1 → l[i]? = some x → x.dst = some d → l[c]? = some y → y.dst = some d → c = i
  | [], i, c, x, y, _, h, _, _, _ => by simp at h
  | o :: r, i, c, x, y, hc, h1, d1, h2, d2 => by
    have hhead : ∀ z : IOper, z.dst = some d → isD d z = true := fun z hz => by simp [isD, hz]
    simp only [cntD] at hc
    cases i with
    | zero =>
      simp only [List.getElem?_cons_zero, Option.some.injEq] at h1
      subst h1
      rw [hhead o d1] at hc
      simp only [cond_true] at hc
      cases c with
      | zero => rfl
      | succ c => have := cntD_pos (l := r) (i := c) (by simpa using h2) d2; omega
    | succ i =>
      have h3 := cntD_pos (l := r) (i := i) (by simpa using h1) d1
      cases c with
      | zero =>
        simp only [List.getElem?_cons_zero, Option.some.injEq] at h2
        subst h2
        rw [hhead o d2] at hc
        simp only [cond_true] at hc
        omega
      | succ c =>
        generalize isD d o = q at hc
        cases q
        · exact congrArg (· + 1) (cntD_uniq hc (by simpa using h1) d1 (by simpa using h2) d2)
        · simp only [cond_true] at hc; omega
theorem left_sorted (m : Nat) (listed : Array Bool) : (left m listed).Pairwise (· < ·) := List.Pairwise.filter _ List.pairwise_lt_range

theorem left_split {m i : Nat} {listed : Array Bool} (hm : listed.size = m) (hi : listed.getD i true = false) :
    ∃ A B, left m listed = A ++ i :: B ∧ left m (listed.setIfInBounds i true) = A ++ B ∧ ∀ x ∈ A, x < i ∧ listed.getD x true = false := by
  have him : i < m := by
    rw [← hm]
    rcases Nat.lt_or_ge i listed.size with h | h
    · exact h
    · simp [Array.getElem?_eq_none h] at hi
  obtain ⟨k, rfl⟩ : ∃ k, m = i + (k + 1) := ⟨m - i - 1, by omega⟩
  have hr : List.range (i + (k + 1)) = List.range i ++ i :: (List.range k).map (i + 1 + ·) := by
    rw [List.range_add, List.range_succ_eq_map, List.map_cons, List.map_map]
    congr 2
    apply List.map_congr_left
    intro a _
    simp only [Function.comp, Nat.succ_eq_add_one]; omega
  refine ⟨(List.range i).filter fun j => !listed.getD j true, ((List.range k).map (i + 1 + ·)).filter fun j => !listed.getD j true, ?_, ?_, fun x hx => ?_⟩
  · unfold left
    rw [hr, List.filter_append, List.filter_cons_of_pos (by rw [hi]; rfl)]
  · unfold left
    rw [hr, List.filter_append, List.filter_cons_of_neg (by simp [hm])]
    congr 1
    · apply List.filter_congr
      intro x hx
      have : i ≠ x := by have := List.mem_range.1 hx; omega
      rw [getD_set_ne true this]
    · apply List.filter_congr
      intro x hx
      obtain ⟨y, _, rfl⟩ := List.mem_map.1 hx
      rw [getD_set_ne true (by omega)]
  · obtain ⟨h1, h2⟩ := List.mem_filter.1 hx
    exact ⟨List.mem_range.1 h1, by simpa using h2⟩

theorem lin_go {call : CallT} {ops : Array Oper} {ios : List IOper} (hlen : ios.length = ops.size) (hd : drawOk ops.toList ios = true) :
    ∀ (fuel t : Nat) (listed : Array Bool) (e e1 : Env) (S S1 : Stack), listed.size = ops.size → (left ops.size listed).length ≤ fuel → S ≠ [] →
      (∀ (k : Nat) (qs : List Nat), listed.getD k true = true → k < ops.size → (aheadOf [] ops.toList)[k]? = some qs → ∀ i ∈ qs, listed.getD i true = true) →
      evOps call ((left ops.size listed).filterMap (ios[·]?)) e S = some (.go e1 S1) →
      (∀ tx tj g, ⟨none, .diff (.t tx) (.t tj), g⟩ ∈ asks ops.toList ios → guardA e1 g = some true → apartV (Env.get e1 tx) (Env.get e1 tj)) →
      ∃ e1', evOps call ((Region.linearise.go .any ops fuel t listed []).filterMap (ios[·]?)) e S = some (.go e1' S1) ∧ Same e1 e1' := by
  have hz : ∀ (i : Nat) (o : Oper), ops[i]? = some o → ∃ io ps, ios[i]? = some io ∧ (aheadOf [] ops.toList)[i]? = some ps ∧ (ios.zip (aheadOf [] ops.toList))[i]? = some (io, ps) ∧ (∀ ed ∈ o.after, Region.binds .any ed = true → ed.on ∈ ps) ∧
      ∀ k ∈ ps, ∃ ed ∈ o.after, Region.binds .any ed = true ∧ (k = ed.on ∨ ∃ qs, (aheadOf [] ops.toList)[ed.on]? = some qs ∧ k ∈ qs) := fun i o ho => by
    have hlt : i < ops.size := (Array.getElem?_eq_some_iff.1 ho).1
    obtain ⟨ps, h1, h0, h2⟩ := aheadOf_spec ops.toList [] i o (by rw [Array.getElem?_toList]; exact ho)
    simp only [List.length_nil, Nat.zero_add] at h1
    have h3 : ios[i]? = some (ios[i]'(by omega)) := List.getElem?_eq_getElem _
    exact ⟨_, ps, h3, h1, by simp only [List.getElem?_zip_eq_some]; exact ⟨h3, h1⟩, h0, h2⟩
  have hdo := drawOkAll_spec hd
  intro fuel
  induction fuel with
  | zero =>
    intro t listed e e1 S S1 _ hf _ _ h _
    have : left ops.size listed = [] := List.length_eq_zero_iff.1 (Nat.le_zero.1 hf)
    rw [this] at h
    exact ⟨e1, h, .refl _⟩
  | succ fuel ih =>
    intro t listed e e1 S S1 hsz hf hS hcl h hask
    simp only [Region.linearise.go]
    change ∃ e1', evOps call ((match (Region.ready .any ops listed)[t % (Region.ready .any ops listed).length]? with
      | some i => Region.linearise.go .any ops fuel (t / (Region.ready .any ops listed).length) (listed.setIfInBounds i true) [i]
      | none => [].reverse).filterMap (ios[·]?)) e S = some (.go e1' S1) ∧ Same e1 e1'
    cases hi : (Region.ready .any ops listed)[t % (Region.ready .any ops listed).length]? with
    | none =>
      have hnil : Region.ready .any ops listed = [] := by
        cases hr : Region.ready .any ops listed with
        | nil => rfl
        | cons x xs =>
          rw [hr] at hi
          have hlt : t % (x :: xs).length < (x :: xs).length := Nat.mod_lt _ (by simp)
          simp at hi
          simp at hlt
          omega
      have hl : left ops.size listed = [] := by
        cases hl : left ops.size listed with
        | nil => rfl
        | cons i r =>
          exfalso
          have hmem : i ∈ left ops.size listed := by rw [hl]; simp
          obtain ⟨hm1, hm2⟩ := List.mem_filter.1 hmem
          have hilt := List.mem_range.1 hm1
          have hun : listed.getD i true = false := by simpa using hm2
          have ho : ops[i]? = some ops[i] := Array.getElem?_eq_getElem hilt
          have hrd : i ∈ Region.ready .any ops listed := by
            rw [mem_ready]
            refine ⟨hun, _, ho, fun ed hed hb => ?_⟩
            obtain ⟨io, ps, _, _, hzp, hin, _⟩ := hz i _ ho
            have hlt := (hdo i io ps hzp).1 _ (hin ed hed hb)
            have hsz2 : ed.on < listed.size := by omega
            cases hx : listed.getD ed.on true with
            | true =>
              simp only [Array.getD_eq_getD_getElem?, Array.getElem?_eq_getElem hsz2, Option.getD_some] at hx ⊢
              exact hx
            | false =>
              obtain ⟨A, B, hA, _, hAlt⟩ := left_split hsz hx
              rw [hl] at hA
              cases A with
              | nil => simp only [List.nil_append, List.cons.injEq] at hA; omega
              | cons a A =>
                simp only [List.cons_append, List.cons.injEq] at hA
                have := (hAlt a (by simp)).1
                omega
          rw [hnil] at hrd
          cases hrd
      rw [hl] at h
      exact ⟨e1, h, .refl _⟩
    | some i =>
      have hrd : i ∈ Region.ready .any ops listed := List.mem_of_getElem? hi
      obtain ⟨hun, o, ho, hall⟩ := mem_ready.1 hrd
      obtain ⟨A, B, hA, hB, hAlt⟩ := left_split hsz hun
      obtain ⟨io, ps, hio, hps, hzp, _, hdirect⟩ := hz i o ho
      simp only
      rw [linearise_go_acc, List.reverse_singleton, List.singleton_append, List.filterMap_cons, hio]
      rw [hA, List.filterMap_append, List.filterMap_cons, hio] at h
      simp only at h ⊢
      have hcl0 : ∀ k ∈ ps, listed.getD k true = true := fun k hk => by
        obtain ⟨ed, hed, hb, hk⟩ := hdirect k hk
        have hon := hall ed hed hb
        have hlt : ed.on < listed.size := by
          rcases Nat.lt_or_ge ed.on listed.size with h | h
          · exact h
          · simp [Array.getElem?_eq_none h] at hon
        have hon' : listed.getD ed.on true = true := by
          simp only [Array.getD_eq_getD_getElem?, Array.getElem?_eq_getElem hlt, Option.getD_some] at hon ⊢
          exact hon
        rcases hk with rfl | ⟨qs, hq, hk⟩
        · exact hon'
        · exact hcl _ qs hon' (by omega) hq k hk
      have hsorted : (A ++ i :: B).Pairwise (· < ·) := hA ▸ left_sorted ops.size listed
      have hunl : ∀ c ∈ A ++ i :: B, listed.getD c true = false := fun c hc => by
        have : c ∈ left ops.size listed := hA ▸ hc
        have := (List.mem_filter.1 this).2
        simpa using this
      have hilt : i < ops.size := (Array.getElem?_eq_some_iff.1 ho).1
      have hok : ∀ (A' : List Nat) A1 x A2, (∃ A0, A = A0 ++ A') → A'.filterMap (ios[·]?) = A1 ++ x :: A2 → pairOk x io = true ∨ DynAt e1 x io A2 (B.filterMap (ios[·]?)) := by
        intro A'
        induction A' with
        | nil => intro A1 x A2 _ h; simp at h
        | cons a A' ihA =>
          intro A1 x A2 hA0 hfm
          obtain ⟨A0, hA0⟩ := hA0
          have ha : a ∈ A := by rw [hA0]; simp
          obtain ⟨hlt, hna⟩ := hAlt a ha
          obtain ⟨x', qs, hx', _, hzq, _, _⟩ := hz a ops[a] (Array.getElem?_eq_getElem (by omega))
          rw [List.filterMap_cons, hx'] at hfm
          simp only at hfm
          cases A1 with
          | cons z A1 =>
            simp only [List.cons_append, List.cons.injEq] at hfm
            exact ihA A1 x A2 ⟨A0 ++ [a], by rw [hA0]; simp⟩ hfm.2
          | nil =>
            simp only [List.nil_append, List.cons.injEq] at hfm
            obtain ⟨rfl, rfl⟩ := hfm
            rcases (hdo a x' qs hzq).2 i io ps hlt hzp with h1 | h1 | ⟨h1, h2⟩
            · rw [Nat.zero_add] at h1
              rw [hcl0 a h1] at hna
              cases hna
            · exact .inl h1
            · right
              rw [Nat.zero_add] at h1
              simp only [dynOk, Bool.and_eq_true, Bool.not_eq_true'] at h1
              obtain ⟨⟨⟨d1, d2⟩, d3⟩, d4⟩ := h1
              -- what is behind x has places from a on that are not yet listed
              have hsuf : ∀ o ∈ x' :: (A'.filterMap (ios[·]?)) ++ io :: B.filterMap (ios[·]?), ∃ c, ios[c]? = some o ∧ a ≤ c ∧ listed.getD c true = false := by
                intro o hm
                have hm' : o ∈ (a :: A' ++ i :: B).filterMap (ios[·]?) := by
                  rw [List.cons_append, List.filterMap_cons, hx', List.filterMap_append, List.filterMap_cons, hio]; exact hm
                obtain ⟨c, hc, hco⟩ := List.mem_filterMap.1 hm'
                refine ⟨c, hco, ?_, hunl c (by rw [hA0, List.append_assoc]; exact List.mem_append_right _ hc)⟩
                rcases List.mem_cons.1 (show c ∈ a :: (A' ++ i :: B) from hc) with rfl | hc2
                · exact Nat.le_refl _
                · rw [hA0, List.append_assoc, List.pairwise_append] at hsorted
                  exact Nat.le_of_lt ((List.pairwise_cons.1 hsorted.2.1).1 c hc2)
              refine ⟨fun d hd => memNs_false d1 d (by simp [hd, optD]), fun d hd hy => memNs_false d2 d (by simp [hd, optD]) (by simp [hy, optD]), fun d hd => memNs_false d3 d (by simp [hd, optD]), ?_⟩
              have notin : ∀ t qs', madeOk t a qs' 0 ios = true → (∀ c ∈ qs', listed.getD c true = true) → t ∉ dsts (x' :: (A'.filterMap (ios[·]?)) ++ io :: B.filterMap (ios[·]?)) := by
                intro t qs' hmk hq hin
                obtain ⟨o, ho1, ho2⟩ := List.mem_flatMap.1 hin
                obtain ⟨c, hc1, hc2, hc3⟩ := hsuf o ho1
                have hdst : o.dst = some t := by
                  cases hd : o.dst with
                  | none => rw [hd] at ho2; simp [optD] at ho2
                  | some d => rw [hd] at ho2; simp [optD] at ho2; rw [ho2]
                rcases madeOk_spec hmk c o hc1 hdst with k | k
                · omega
                · rw [Nat.zero_add] at k
                  rw [hq c k] at hc3; cases hc3
              split at d4
              · rename_i n tx m tj w q1 q3 q4
                simp only [Bool.and_eq_true] at d4
                refine .inl ⟨n, tx, m, tj, w, q1, q3, q4, notin tx [] d4.1.1 (by simp), notin tj ps d4.1.2 hcl0, fun j w hg => ?_, hask tx tj x'.guard ?_⟩
                · have := d4.2
                  rw [hg] at this
                  exact notin j [] this (by simp)
                · exact h2 ⟨none, .diff (.t tx) (.t tj), x'.guard⟩ (by simp only [dynAsk, q1, q3]; simp)
              · rename_i n ax z q1 q3 q4
                exact .inr (.inl ⟨n, ax, z, q1, q3, q4⟩)
              · rename_i d1' z1 d2' z2 q1 q2 q3
                simp only [Bool.and_eq_true, Bool.not_eq_true'] at d4
                refine .inr (.inr (.inl ⟨d1', z1, d2', z2, q1, q2, q3, ?_, Nat.ne_of_beq_eq_false d4.1⟩))
                cases hg : x'.guard with
                | none => rfl
                | some p => rw [hg] at d4; exact absurd d4.2 (by simp)
              · rename_i n tx q1 q3 hns hna
                cases hyd : io.dst with
                | none => rw [hyd] at d4; cases d4
                | some d =>
                  rw [hyd] at d4
                  simp only [Bool.and_eq_true] at d4
                  obtain ⟨⟨⟨b1, b2⟩, b3⟩, b4⟩ := d4
                  have b2 := Nat.eq_of_beq_eq_true b2
                  have hmem : (⟨none, .diff (.t tx) (.t d), x'.guard⟩ : IOper) ∈ dynAsk x' io := by
                    unfold dynAsk
                    rw [q1]
                    cases hop : io.op <;> (try (rw [hop] at b1; cases b1; done)) <;> first
                      | (rw [hyd]; simp; done)
                      | exact (hna _ hop).elim
                  refine .inr (.inr (.inr (.inl ⟨n, tx, d, q1, b1, q3, (by first | rfl | exact hyd), fun hin => ?_, notin tx [] b3 (by simp), fun j w hg => ?_, hask tx d x'.guard (h2 _ hmem)⟩)))
                  · obtain ⟨o, ho1, ho2⟩ := List.mem_flatMap.1 hin
                    have hdst : o.dst = some d := by
                      cases hd : o.dst with
                      | none => rw [hd] at ho2; simp [optD] at ho2
                      | some d => rw [hd] at ho2; simp [optD] at ho2; rw [ho2]
                    rw [← List.filterMap_append] at ho1
                    obtain ⟨c, hc, hco⟩ := List.mem_filterMap.1 ho1
                    have hci := cntD_uniq b2 hio hyd hco hdst
                    subst hci
                    rw [List.pairwise_append] at hsorted
                    rcases List.mem_append.1 hc with hc | hc
                    · exact absurd (hsorted.2.2 c (by rw [hA0]; simp [hc]) c (by simp)) (Nat.lt_irrefl _)
                    · exact absurd ((List.pairwise_cons.1 hsorted.2.1).1 c hc) (Nat.lt_irrefl _)
                  · rw [hg] at b4
                    exact notin j [] b4 (by simp)
              · rename_i n tx q1 hnl
                cases hxd : x'.dst with
                | none => rw [hxd] at d4; cases d4
                | some d =>
                  cases hxg : x'.guard with
                  | some p => rw [hxd, hxg] at d4; cases d4
                  | none =>
                  rw [hxd, hxg] at d4
                  simp only [Bool.and_eq_true] at d4
                  obtain ⟨⟨⟨b1, b2⟩, b3⟩, b4⟩ := d4
                  have b2 := Nat.eq_of_beq_eq_true b2
                  have hmem : (⟨none, .diff (.t tx) (.t d), io.guard⟩ : IOper) ∈ dynAsk x' io := by
                    unfold dynAsk
                    rw [q1]
                    cases hop : x'.op <;> (try (rw [hop] at b1; cases b1; done)) <;> (rw [hxd]; simp)
                  refine .inr (.inr (.inr (.inr ⟨n, tx, d, q1, b1, (by first | rfl | exact hxg), (by first | rfl | exact hxd), fun hin => ?_, notin tx ps b3 hcl0, fun j w hg => ?_, hask tx d io.guard (h2 _ hmem)⟩)))
                  · obtain ⟨o, ho1, ho2⟩ := List.mem_flatMap.1 hin
                    have hdst : o.dst = some d := by
                      cases hd : o.dst with
                      | none => rw [hd] at ho2; simp [optD] at ho2
                      | some d => rw [hd] at ho2; simp [optD] at ho2; rw [ho2]
                    have ho1' : o ∈ (A' ++ i :: B).filterMap (ios[·]?) := by
                      rw [List.filterMap_append, List.filterMap_cons, hio]; exact ho1
                    obtain ⟨c, hc, hco⟩ := List.mem_filterMap.1 ho1'
                    have hci := cntD_uniq b2 hx' hxd hco hdst
                    subst hci
                    rw [hA0, List.append_assoc, List.pairwise_append] at hsorted
                    exact absurd ((List.pairwise_cons.1 hsorted.2.1).1 c hc) (Nat.lt_irrefl _)
                  · rw [hg] at b4
                    exact notin j ps b4 hcl0
              · cases d4
      obtain ⟨e2, h1, h2⟩ := evOps_move (hok A · · · ⟨[], rfl⟩) hS (.refl _) h
      simp only [evOps] at h1 ⊢
      split at h1
      · rename_i ej Sj hj
        have hSj : Sj ≠ [] := by obtain ⟨_, _, n, _⟩ := evOper_shape hj; exact n hS
        rw [← List.filterMap_append, ← hB] at h1
        obtain ⟨e3, h3, h4⟩ := ih (t / (Region.ready .any ops listed).length) (listed.setIfInBounds i true) ej e2 Sj S1 (by simpa using hsz) (by
            rw [hB]; rw [hA] at hf; simp at hf ⊢; omega) hSj (fun k qs hk hkl hq x hx => by
            by_cases hki : k = i
            · subst hki
              cases hps.symm.trans hq
              have := hcl0 x hx
              by_cases hxi : k = x
              · subst hxi; simp [hsz, hkl]
              · rw [getD_set_ne true hxi]; exact this
            · rw [getD_set_ne true (Ne.symm hki)] at hk
              have := hcl k qs hk hkl hq x hx
              by_cases hxi : i = x
              · subst hxi; rw [this] at hun; cases hun
              · rw [getD_set_ne true hxi]; exact this) h1 (fun tx tj g hm hg => by
            have hgg : guardA e1 g = guardA e2 g := by
              cases g with
              | none => rfl
              | some p => obtain ⟨j, w⟩ := p; simp only [guardA, h2 j]
            rw [← h2 tx, ← h2 tj]; exact hask tx tj g hm (hgg.trans hg))
        exact ⟨e3, h3, h2.trans h4⟩
      · rename_i hno
        exact absurd h1 (hno _ _)
end Go.AS
