import Derived.DefersIn
import Derived.RangeFuncIn
import Derived.RangeFuncLeaves
import Derived.Orders
import Derived.Test.YtfffeogjnmalkaaDoorAs1
set_option linter.all false
/-
  What an abstract state says of a state of the model. By an AI agent.
-/
namespace Go.AS
open Go

/-- For an object's number and its size: the block, and how many cells of it are its own. -/
abbrev MMap := Nat → Nat → Option (Nat × Nat)
abbrev IMap := Nat → Option Obj

mutual
/-- What a value stands for. I: the blocks that nobody writes any more. Ms: each level's objects, the top level's first. -/
def RV (I : IMap) : AV → List MMap → Value → Prop
  | .undef => fun _ _ => True
  | .bool b => fun _ x => x = .bool b
  | .int k n => fun _ x => x = .int k n
  | .str s => fun _ x => ∃ b : ByteArray, x = .string b ∧ b.data.toList = s
  | .nilptr => fun _ x => x = .pointer none
  | .ptr id lim off => fun Ms x => ∃ M Ms' blk tot, Ms = M :: Ms' ∧ M id lim = some (blk, tot) ∧ x = .pointer (some ⟨blk, off, none⟩)
  | .iptr row off => fun Ms x => ∃ blk base c e fz xs, x = .pointer (some ⟨blk, base + off, none⟩) ∧ I blk = some (.cells c e fz) ∧ RVs I row Ms true xs ∧ ∀ i y, xs[i]? = some y → c[base + i]? = some y
  | .imm nil es len cap cs => fun Ms x => ∃ a rcap xs, x = .slice a len rcap ∧ nil = a.isNone ∧ (nil = true → len = 0 ∧ rcap = 0) ∧ len ≤ rcap ∧ (∀ c, cap = some c → rcap = c) ∧ cs.length = len * es ∧ RVs I cs Ms true xs ∧
      (cs ≠ [] → ∃ blk off c e fz, a = some ⟨blk, off, none⟩ ∧ I blk = some (.cells c e fz) ∧ ∀ i y, xs[i]? = some y → c[off + i]? = some y)
  | .ref id lim off es len cap ex => fun Ms x => ∃ M Ms' blk tot a rcap, Ms = M :: Ms' ∧ M id lim = some (blk, tot) ∧ x = .slice (some a) len rcap ∧ len ≤ cap ∧ cap ≤ rcap ∧ off + rcap * es ≤ tot ∧ (ex = true → rcap = cap) ∧ (rcap ≠ 0 → a = ⟨blk, off, none⟩)
  | .nilmap => fun _ x => x = .map none
  | .map id => fun Ms x => ∃ M Ms' blk tot, Ms = M :: Ms' ∧ M id 0 = some (blk, tot) ∧ x = .map (some blk)
  | .func fn fi ca => fun Ms x => match fn with
    | .func f => ∃ xs ys, x = .func (.func f) xs ys ∧ RVs I fi Ms false xs.toList ∧ RVs I ca Ms false ys.toList
    | .yield l => ∃ M Ms' blk tot, Ms = M :: Ms' ∧ M l 0 = some (blk, tot) ∧ x = .func (.yield blk) #[] #[]
    | _ => False
  | .nilFunc => fun _ x => x = .nilFunc
  | .iface t v => fun Ms x => ∃ y, x = .iface t y ∧ RV I v Ms y
  | .nilIface => fun _ x => x = .nilIface
  | .agg cs => fun Ms x => ∃ xs, x = .agg xs ∧ RVs I cs Ms true xs.toList
  | .tuple vs => fun Ms x => ∃ xs, x = .tuple xs ∧ RVs I vs Ms false xs.toList
  | .ext v => fun Ms x => ∃ M Ms', Ms = M :: Ms' ∧ RV I v Ms' x
def RVs (I : IMap) : List AV → List MMap → Bool → List Value → Prop
  | [] => fun _ _ xs => xs = []
  | v :: r => fun Ms one xs => ∃ x xs', xs = x :: xs' ∧ RV I v Ms x ∧ (one = true → x.oneCell = true) ∧ RVs I r Ms one xs'
end

def MsLe : List MMap → List MMap → Prop
  | [], [] => True
  | M :: Ms, M' :: Ms' => (∀ id lim p, M id lim = some p → M' id lim = some p) ∧ MsLe Ms Ms'
  | _, _ => False

theorem MsLe.refl : ∀ Ms, MsLe Ms Ms
  | [] => trivial
  | _ :: Ms => ⟨fun _ _ _ h => h, MsLe.refl Ms⟩

theorem MsLe.trans : ∀ {A B C}, MsLe A B → MsLe B C → MsLe A C
  | [], [], [], _, _ => trivial
  | _ :: _, _ :: _, _ :: _, ⟨h1, h2⟩, ⟨k1, k2⟩ => ⟨fun a b p h => k1 a b p (h1 a b p h), h2.trans k2⟩
  | [], [], _ :: _, _, h => h.elim
  | [], _ :: _, _, h, _ => h.elim
  | _ :: _, [], _, h, _ => h.elim
  | _ :: _, _ :: _, [], _, h => h.elim

theorem MsLe.length : ∀ {A B}, MsLe A B → A.length = B.length
  | [], [], _ => rfl
  | _ :: _, _ :: _, ⟨_, h⟩ => by simp [h.length]
  | [], _ :: _, h => h.elim
  | _ :: _, [], h => h.elim

theorem MsLe.cons_inv {M : MMap} {Ms Ns : List MMap} (h : MsLe (M :: Ms) Ns) : ∃ N Ns', Ns = N :: Ns' ∧ (∀ id lim p, M id lim = some p → N id lim = some p) ∧ MsLe Ms Ns' := by
  cases Ns with
  | nil => exact h.elim
  | cons N Ns => exact ⟨N, Ns, rfl, h.1, h.2⟩

mutual
theorem RV.mono {I I' : IMap} (hI : ∀ b o, I b = some o → I' b = some o) : ∀ (v : AV) {Ms Ms' : List MMap} {x : Value}, MsLe Ms Ms' → RV I v Ms x → RV I' v Ms' x
  | .undef, _, _, _, _, h => h
  | .bool _, _, _, _, _, h => h
  | .int _ _, _, _, _, _, h => h
  | .str _, _, _, _, _, h => h
  | .nilptr, _, _, _, _, h => h
  | .nilmap, _, _, _, _, h => h
  | .nilFunc, _, _, _, _, h => h
  | .nilIface, _, _, _, _, h => h
  | .ptr id lim off, _, _, _, hM, h => by
    obtain ⟨M, Ms', blk, tot, rfl, h1, rfl⟩ := h
    obtain ⟨N, Ns, rfl, h2, h3⟩ := hM.cons_inv
    exact ⟨N, Ns, blk, tot, rfl, h2 _ _ _ h1, rfl⟩
  | .map id, _, _, _, hM, h => by
    obtain ⟨M, Ms', blk, tot, rfl, h1, rfl⟩ := h
    obtain ⟨N, Ns, rfl, h2, h3⟩ := hM.cons_inv
    exact ⟨N, Ns, blk, tot, rfl, h2 _ _ _ h1, rfl⟩
  | .ref id lim off es len cap ex, _, _, _, hM, h => by
    obtain ⟨M, Ms', blk, tot, a, rcap, rfl, h1, rfl, hr⟩ := h
    obtain ⟨N, Ns, rfl, h2, h3⟩ := hM.cons_inv
    exact ⟨N, Ns, blk, tot, a, rcap, rfl, h2 _ _ _ h1, rfl, hr⟩
  | .iptr row off, _, _, _, hM, h => by
    obtain ⟨blk, base, c, e, fz, xs, rfl, h1, h2, h3⟩ := h
    exact ⟨blk, base, c, e, fz, xs, rfl, hI _ _ h1, RVs.mono hI row hM h2, h3⟩
  | .imm nil es len cap cs, _, _, _, hM, h => by
    obtain ⟨a, rcap, xs, rfl, h1, h2, h3, h4, h5, h6, h7⟩ := h
    refine ⟨a, rcap, xs, rfl, h1, h2, h3, h4, h5, RVs.mono hI cs hM h6, fun hne => ?_⟩
    obtain ⟨blk, off, c, e, fz, k1, k2, k3⟩ := h7 hne
    exact ⟨blk, off, c, e, fz, k1, hI _ _ k2, k3⟩
  | .func fn fi ca, _, _, _, hM, h => by
    cases fn with
    | func f =>
      obtain ⟨xs, ys, rfl, h1, h2⟩ := h
      exact ⟨xs, ys, rfl, RVs.mono hI fi hM h1, RVs.mono hI ca hM h2⟩
    | yield l =>
      obtain ⟨M, Ms', blk, tot, rfl, h1, rfl⟩ := h
      obtain ⟨N, Ns, rfl, h2, h3⟩ := hM.cons_inv
      exact ⟨N, Ns, blk, tot, rfl, h2 _ _ _ h1, rfl⟩
    | method => exact h.elim
    | methodOf => exact h.elim
    | via => exact h.elim
  | .iface t v, _, _, _, hM, h => by
    obtain ⟨y, rfl, h1⟩ := h
    exact ⟨y, rfl, RV.mono hI v hM h1⟩
  | .agg cs, _, _, _, hM, h => by
    obtain ⟨xs, rfl, h1⟩ := h
    exact ⟨xs, rfl, RVs.mono hI cs hM h1⟩
  | .tuple vs, _, _, _, hM, h => by
    obtain ⟨xs, rfl, h1⟩ := h
    exact ⟨xs, rfl, RVs.mono hI vs hM h1⟩
  | .ext v, _, _, _, hM, h => by
    obtain ⟨M, Ms', rfl, h1⟩ := h
    obtain ⟨N, Ns, rfl, h2, h3⟩ := hM.cons_inv
    exact ⟨N, Ns, rfl, RV.mono hI v h3 h1⟩
theorem RVs.mono {I I' : IMap} (hI : ∀ b o, I b = some o → I' b = some o) : ∀ (vs : List AV) {Ms Ms' : List MMap} {one : Bool} {xs : List Value}, MsLe Ms Ms' → RVs I vs Ms one xs → RVs I' vs Ms' one xs
  | [], _, _, _, _, _, h => h
  | v :: r, _, _, _, _, hM, h => by
    obtain ⟨x, xs', rfl, h1, h2, h3⟩ := h
    exact ⟨x, xs', rfl, RV.mono hI v hM h1, h2, RVs.mono hI r hM h3⟩
end

mutual
/-- A value that touches no level's memory stands for the same at every level. -/
theorem RV.free {I : IMap} : ∀ (v : AV) {Ms Ms' : List MMap} {x : Value}, hfree v = true → RV I v Ms x → RV I v Ms' x
  | .undef, _, _, _, _, h => h
  | .bool _, _, _, _, _, h => h
  | .int _ _, _, _, _, _, h => h
  | .str _, _, _, _, _, h => h
  | .nilptr, _, _, _, _, h => h
  | .nilmap, _, _, _, _, h => h
  | .nilFunc, _, _, _, _, h => h
  | .nilIface, _, _, _, _, h => h
  | .ptr id lim off, _, _, _, hf, _ => by simp [hfree] at hf
  | .map id, _, _, _, hf, _ => by simp [hfree] at hf
  | .ref id lim off es len cap ex, _, _, _, hf, _ => by simp [hfree] at hf
  | .iptr row off, _, _, _, hf, h => by
    obtain ⟨blk, base, c, e, fz, xs, rfl, h1, h2, h3⟩ := h
    exact ⟨blk, base, c, e, fz, xs, rfl, h1, RVs.free row (by simpa [hfree] using hf) h2, h3⟩
  | .imm nil es len cap cs, _, _, _, hf, h => by
    obtain ⟨a, rcap, xs, rfl, h1, h2, h3, h4, h5, h6, h7⟩ := h
    exact ⟨a, rcap, xs, rfl, h1, h2, h3, h4, h5, RVs.free cs (by simpa [hfree] using hf) h6, h7⟩
  | .func fn fi ca, _, _, _, hf, h => by
    cases fn with
    | func f =>
      obtain ⟨xs, ys, rfl, h1, h2⟩ := h
      simp only [hfree, Bool.true_and, Bool.and_eq_true] at hf
      exact ⟨xs, ys, rfl, RVs.free fi hf.1 h1, RVs.free ca hf.2 h2⟩
    | yield l => simp [hfree] at hf
    | method => exact h.elim
    | methodOf => exact h.elim
    | via => exact h.elim
  | .iface t v, _, _, _, hf, h => by
    obtain ⟨y, rfl, h1⟩ := h
    exact ⟨y, rfl, RV.free v (by simpa [hfree] using hf) h1⟩
  | .agg cs, _, _, _, hf, h => by
    obtain ⟨xs, rfl, h1⟩ := h
    exact ⟨xs, rfl, RVs.free cs (by simpa [hfree] using hf) h1⟩
  | .tuple vs, _, _, _, hf, h => by
    obtain ⟨xs, rfl, h1⟩ := h
    exact ⟨xs, rfl, RVs.free vs (by simpa [hfree] using hf) h1⟩
  | .ext v, _, _, _, hf, _ => by simp [hfree] at hf
theorem RVs.free {I : IMap} : ∀ (vs : List AV) {Ms Ms' : List MMap} {one : Bool} {xs : List Value}, hfrees vs = true → RVs I vs Ms one xs → RVs I vs Ms' one xs
  | [], _, _, _, _, _, h => h
  | v :: r, _, _, _, _, hf, h => by
    simp only [hfrees, Bool.and_eq_true] at hf
    obtain ⟨x, xs', rfl, h1, h2, h3⟩ := h
    exact ⟨x, xs', rfl, RV.free v hf.1 h1, h2, RVs.free r hf.2 h3⟩
end

mutual
theorem RV.raise {I : IMap} {M : MMap} : ∀ (v : AV) {v' : AV} {Ms : List MMap} {x : Value}, AS.raise v = some v' → RV I v Ms x → RV I v' (M :: Ms) x
  | .undef, _, _, _, e, h => by cases e; exact h
  | .bool _, _, _, _, e, h => by cases e; exact h
  | .int _ _, _, _, _, e, h => by cases e; exact h
  | .str _, _, _, _, e, h => by cases e; exact h
  | .nilptr, _, _, _, e, h => by cases e; exact h
  | .nilmap, _, _, _, e, h => by cases e; exact h
  | .nilFunc, _, _, _, e, h => by cases e; exact h
  | .nilIface, _, _, _, e, h => by cases e; exact h
  | .ptr id lim off, _, _, _, e, _ => by simp [AS.raise] at e
  | .map id, _, _, _, e, _ => by simp [AS.raise] at e
  | .ref id lim off es len cap ex, _, _, _, e, _ => by simp [AS.raise] at e
  | .iptr row off, _, _, _, e, h => by
    simp only [AS.raise, Option.map_eq_some_iff] at e
    obtain ⟨row', e, rfl⟩ := e
    obtain ⟨blk, base, c, e', fz, xs, rfl, h1, h2, h3⟩ := h
    exact ⟨blk, base, c, e', fz, xs, rfl, h1, (RVs.raise row e h2).2, h3⟩
  | .imm nil es len cap cs, _, _, _, e, h => by
    simp only [AS.raise, Option.map_eq_some_iff] at e
    obtain ⟨cs', e, rfl⟩ := e
    obtain ⟨a, rcap, xs, rfl, h1, h2, h3, h4, h5, h6, h7⟩ := h
    have hl := (RVs.raise (M := M) cs e h6)
    exact ⟨a, rcap, xs, rfl, h1, h2, h3, h4, by rw [hl.1]; exact h5, hl.2, fun hne => h7 (by intro h0; subst h0; simp at hl; exact hne hl.1)⟩
  | .func fn fi ca, _, _, _, e, h => by
    simp only [AS.raise, Option.some.injEq] at e
    split at e
    · rename_i hf
      subst e
      exact RV.free _ hf h
    · subst e
      exact ⟨_, _, rfl, h⟩
  | .iface t v, _, _, _, e, h => by
    simp only [AS.raise, Option.map_eq_some_iff] at e
    obtain ⟨v', e, rfl⟩ := e
    obtain ⟨y, rfl, h1⟩ := h
    exact ⟨y, rfl, RV.raise v e h1⟩
  | .agg cs, _, _, _, e, h => by
    simp only [AS.raise, Option.map_eq_some_iff] at e
    obtain ⟨cs', e, rfl⟩ := e
    obtain ⟨xs, rfl, h1⟩ := h
    exact ⟨xs, rfl, (RVs.raise cs e h1).2⟩
  | .tuple vs, _, _, _, e, h => by
    simp only [AS.raise, Option.map_eq_some_iff] at e
    obtain ⟨cs', e, rfl⟩ := e
    obtain ⟨xs, rfl, h1⟩ := h
    exact ⟨xs, rfl, (RVs.raise vs e h1).2⟩
  | .ext v, _, _, _, e, h => by
    simp only [AS.raise, Option.some.injEq] at e
    subst e
    exact ⟨_, _, rfl, h⟩
theorem RVs.raise {I : IMap} {M : MMap} : ∀ (vs : List AV) {vs' : List AV} {Ms : List MMap} {one : Bool} {xs : List Value}, AS.raises vs = some vs' → RVs I vs Ms one xs → vs'.length = vs.length ∧ RVs I vs' (M :: Ms) one xs
  | [], _, _, _, _, e, h => by simp only [AS.raises, Option.some.injEq] at e; subst e; exact ⟨rfl, h⟩
  | v :: r, _, _, _, _, e, h => by
    simp only [AS.raises] at e
    split at e
    · rename_i v' r' e1 e2
      simp only [Option.some.injEq] at e
      subst e
      obtain ⟨x, xs', rfl, h1, h2, h3⟩ := h
      have := RVs.raise (M := M) r e2 h3
      exact ⟨by simp [this.1], x, xs', rfl, RV.raise v e1 h1, h2, this.2⟩
    · cases e
end

mutual
theorem RV.lower {I : IMap} {M : MMap} : ∀ (v : AV) {v' : AV} {Ms : List MMap} {x : Value}, AS.lower v = some v' → RV I v (M :: Ms) x → RV I v' Ms x
  | .undef, _, _, _, e, h => by cases e; exact h
  | .bool _, _, _, _, e, h => by cases e; exact h
  | .int _ _, _, _, _, e, h => by cases e; exact h
  | .str _, _, _, _, e, h => by cases e; exact h
  | .nilptr, _, _, _, e, h => by cases e; exact h
  | .nilmap, _, _, _, e, h => by cases e; exact h
  | .nilFunc, _, _, _, e, h => by cases e; exact h
  | .nilIface, _, _, _, e, h => by cases e; exact h
  | .ptr id lim off, _, _, _, e, _ => by simp [AS.lower] at e
  | .map id, _, _, _, e, _ => by simp [AS.lower] at e
  | .ref id lim off es len cap ex, _, _, _, e, _ => by simp [AS.lower] at e
  | .iptr row off, _, _, _, e, h => by
    simp only [AS.lower, Option.map_eq_some_iff] at e
    obtain ⟨row', e, rfl⟩ := e
    obtain ⟨blk, base, c, e', fz, xs, rfl, h1, h2, h3⟩ := h
    exact ⟨blk, base, c, e', fz, xs, rfl, h1, (RVs.lower row e h2).2, h3⟩
  | .imm nil es len cap cs, _, _, _, e, h => by
    simp only [AS.lower, Option.map_eq_some_iff] at e
    obtain ⟨cs', e, rfl⟩ := e
    obtain ⟨a, rcap, xs, rfl, h1, h2, h3, h4, h5, h6, h7⟩ := h
    have hl := (RVs.lower (M := M) cs e h6)
    exact ⟨a, rcap, xs, rfl, h1, h2, h3, h4, by rw [hl.1]; exact h5, hl.2, fun hne => h7 (by intro h0; subst h0; simp at hl; exact hne hl.1)⟩
  | .func fn fi ca, _, _, _, e, h => by
    cases fn with
    | func f =>
      simp only [AS.lower] at e
      split at e
      · rename_i fi' ca' e1 e2
        simp only [Option.some.injEq] at e
        subst e
        obtain ⟨xs, ys, rfl, h1, h2⟩ := h
        exact ⟨xs, ys, rfl, (RVs.lower fi e1 h1).2, (RVs.lower ca e2 h2).2⟩
      · cases e
    | yield l => simp [AS.lower] at e
    | method => exact h.elim
    | methodOf => exact h.elim
    | via => exact h.elim
  | .iface t v, _, _, _, e, h => by
    simp only [AS.lower, Option.map_eq_some_iff] at e
    obtain ⟨v', e, rfl⟩ := e
    obtain ⟨y, rfl, h1⟩ := h
    exact ⟨y, rfl, RV.lower v e h1⟩
  | .agg cs, _, _, _, e, h => by
    simp only [AS.lower, Option.map_eq_some_iff] at e
    obtain ⟨cs', e, rfl⟩ := e
    obtain ⟨xs, rfl, h1⟩ := h
    exact ⟨xs, rfl, (RVs.lower cs e h1).2⟩
  | .tuple vs, _, _, _, e, h => by
    simp only [AS.lower, Option.map_eq_some_iff] at e
    obtain ⟨cs', e, rfl⟩ := e
    obtain ⟨xs, rfl, h1⟩ := h
    exact ⟨xs, rfl, (RVs.lower vs e h1).2⟩
  | .ext v, _, _, _, e, h => by
    simp only [AS.lower, Option.some.injEq] at e
    subst e
    obtain ⟨M', Ms', e', h1⟩ := h
    cases e'
    exact h1
theorem RVs.lower {I : IMap} {M : MMap} : ∀ (vs : List AV) {vs' : List AV} {Ms : List MMap} {one : Bool} {xs : List Value}, AS.lowers vs = some vs' → RVs I vs (M :: Ms) one xs → vs'.length = vs.length ∧ RVs I vs' Ms one xs
  | [], _, _, _, _, e, h => by simp only [AS.lowers, Option.some.injEq] at e; subst e; exact ⟨rfl, h⟩
  | v :: r, _, _, _, _, e, h => by
    simp only [AS.lowers] at e
    split at e
    · rename_i v' r' e1 e2
      simp only [Option.some.injEq] at e
      subst e
      obtain ⟨x, xs', rfl, h1, h2, h3⟩ := h
      have := RVs.lower (M := M) r e2 h3
      exact ⟨by simp [this.1], x, xs', rfl, RV.lower v e1 h1, h2, this.2⟩
    · cases e
end

mutual
theorem RV.fg {I : IMap} : ∀ (v : AV) {Ms : List MMap} {x : Value}, RV I v Ms x → RV I (AS.fg v) Ms x
  | .undef, _, _, h => h
  | .bool _, _, _, h => h
  | .int _ _, _, _, h => h
  | .str _, _, _, h => h
  | .nilptr, _, _, h => h
  | .ptr _ _ _, _, _, h => h
  | .iptr row off, Ms, x, h => by
    simp only [RV] at h
    obtain ⟨blk, base, c, e, fz, xs, rfl, h1, h2, h3⟩ := h
    simp only [AS.fg, RV]
    exact ⟨blk, base, c, e, fz, xs, rfl, h1, (RVs.fg row h2).2, h3⟩
  | .imm nil es len cap cs, Ms, x, h => by
    simp only [RV] at h
    obtain ⟨a, rcap, xs, rfl, h1, h2, h3, h4, h5, h6, h7⟩ := h
    simp only [AS.fg]
    cases hl : Nat.beq len 0 with
    | true =>
      have hl0 : len = 0 := Nat.eq_of_beq_eq_true hl
      subst hl0
      simp only [cond_true, RV]
      exact ⟨a, rcap, [], rfl, h1, fun hn => ⟨trivial, (h2 hn).2⟩, h3, (fun _ e => by cases e), by simp, by simp [RVs], fun he => (he rfl).elim⟩
    | false =>
      have h8 := RVs.fg cs h6
      simp only [cond_false, RV]
      exact ⟨a, rcap, xs, rfl, h1, h2, h3, (fun _ e => by cases e), by rw [h8.1]; exact h5, h8.2, fun he => h7 (fun hc => he (by subst hc; rfl))⟩
  | .ref _ _ _ _ _ _ _, _, _, h => h
  | .nilmap, _, _, h => h
  | .map _, _, _, h => h
  | .func fn fi ca, Ms, x, h => by
    simp only [RV] at h
    simp only [AS.fg, RV]
    cases fn with
    | func f =>
      obtain ⟨xs, ys, rfl, h1, h2⟩ := h
      exact ⟨xs, ys, rfl, (RVs.fg fi h1).2, (RVs.fg ca h2).2⟩
    | yield l => exact h
    | _ => exact h
  | .nilFunc, _, _, h => h
  | .iface t v, Ms, x, h => by
    simp only [RV] at h
    obtain ⟨y, rfl, h1⟩ := h
    simp only [AS.fg, RV]
    exact ⟨y, rfl, RV.fg v h1⟩
  | .nilIface, _, _, h => h
  | .agg cs, Ms, x, h => by
    simp only [RV] at h
    obtain ⟨xs, rfl, h1⟩ := h
    simp only [AS.fg, RV]
    exact ⟨xs, rfl, (RVs.fg cs h1).2⟩
  | .tuple vs, Ms, x, h => by
    simp only [RV] at h
    obtain ⟨xs, rfl, h1⟩ := h
    simp only [AS.fg, RV]
    exact ⟨xs, rfl, (RVs.fg vs h1).2⟩
  | .ext _, _, _, h => h
theorem RVs.fg {I : IMap} : ∀ (vs : List AV) {Ms : List MMap} {one : Bool} {xs : List Value}, RVs I vs Ms one xs → (AS.fgs vs).length = vs.length ∧ RVs I (AS.fgs vs) Ms one xs
  | [], _, _, _, h => ⟨rfl, h⟩
  | v :: r, Ms, one, xs, h => by
    simp only [RVs] at h
    obtain ⟨x, xs', rfl, h1, h2, h3⟩ := h
    have h4 := RVs.fg r h3
    simp only [AS.fgs, RVs]
    exact ⟨by simp [h4.1], x, xs', rfl, RV.fg v h1, h2, h4.2⟩
end

theorem RV.imm0 {I : IMap} {n : Bool} {es len : Nat} {cap : Option Nat} {cs : List AV} {Ms : List MMap} {x : Value} (h : RV I (.imm n es len cap cs) Ms x) : RV I (AS.imm0 n es len cap cs) Ms x := by
  unfold AS.imm0
  cases hl : Nat.beq len 0 with
  | false => exact h
  | true =>
    have hl0 : len = 0 := Nat.eq_of_beq_eq_true hl
    subst hl0
    obtain ⟨a, rcap, xs, f, h1, h2, h3, h4, h5, h6, h7⟩ := h
    exact ⟨a, rcap, xs, f, h1, h2, h3, h4, by simpa using h5, h6, h7⟩

theorem RV.up {I : IMap} {M : MMap} {v v' : AV} {Ms : List MMap} {x : Value} (e : AS.up v = some v') (h : RV I v Ms x) : RV I v' (M :: Ms) x := by
  unfold AS.up at e
  cases hf : hfree v with
  | true => rw [hf] at e; cases e; exact RV.free _ hf h
  | false => rw [hf] at e; exact RV.raise v e h

theorem RV.upf {I : IMap} {M : MMap} {v v' : AV} {Ms : List MMap} {x : Value} (e : AS.upf v = some v') (h : RV I v Ms x) : RV I v' (M :: Ms) x := by
  simp only [AS.upf, Option.map_eq_some_iff] at e
  obtain ⟨u, e1, rfl⟩ := e
  exact RV.fg u (RV.up e1 h)
theorem RV.down {I : IMap} {M : MMap} {v v' : AV} {Ms : List MMap} {x : Value} (e : AS.down v = some v') (h : RV I v (M :: Ms) x) : RV I v' Ms x := by
  unfold AS.down at e
  cases hf : hfree v with
  | true => rw [hf] at e; cases e; exact RV.free _ hf h
  | false => rw [hf] at e; exact RV.lower v e h

theorem mapO_cons {α β : Type} {f : α → Option β} {x : α} {r : List α} {ys : List β} (h : mapO f (x :: r) = some ys) : ∃ y ys', ys = y :: ys' ∧ f x = some y ∧ mapO f r = some ys' := by
  simp only [mapO] at h
  split at h
  · rename_i y ys' h1 h2
    exact ⟨y, ys', (Option.some.inj h).symm, h1, h2⟩
  · cases h

theorem mapO_length {α β : Type} {f : α → Option β} : ∀ {l : List α} {ys : List β}, mapO f l = some ys → ys.length = l.length
  | [], ys, h => by simp only [mapO, Option.some.injEq] at h; subst h; rfl
  | x :: r, ys, h => by
    obtain ⟨y, ys', rfl, _, h2⟩ := mapO_cons h
    simp [mapO_length h2]

theorem RVs.mapO {I I' : IMap} {Ms Ms' : List MMap} {one : Bool} {f : AV → Option AV} (hf : ∀ v v' x, f v = some v' → RV I v Ms x → RV I' v' Ms' x) :
    ∀ (vs : List AV) {vs' : List AV} {xs : List Value}, AS.mapO f vs = some vs' → RVs I vs Ms one xs → RVs I' vs' Ms' one xs
  | [], _, _, e, h => by simp only [AS.mapO, Option.some.injEq] at e; subst e; exact h
  | v :: r, _, _, e, h => by
    obtain ⟨y, ys', rfl, e1, e2⟩ := mapO_cons e
    obtain ⟨x, xs', rfl, h1, h2, h3⟩ := h
    exact ⟨x, xs', rfl, hf _ _ _ e1 h1, h2, RVs.mapO hf r e2 h3⟩

theorem RVs.length {I : IMap} : ∀ (vs : List AV) {Ms : List MMap} {one : Bool} {xs : List Value}, RVs I vs Ms one xs → xs.length = vs.length
  | [], _, _, _, h => by rw [show _ = [] from h]; rfl
  | v :: r, _, _, _, h => by
    obtain ⟨x, xs', rfl, _, _, h3⟩ := h
    simp [RVs.length r h3]

theorem RVs.get {I : IMap} : ∀ {vs : List AV} {Ms : List MMap} {one : Bool} {xs : List Value} {i : Nat} {v : AV}, RVs I vs Ms one xs → vs[i]? = some v → ∃ x, xs[i]? = some x ∧ RV I v Ms x ∧ (one = true → x.oneCell = true)
  | [], _, _, _, _, _, _, h => by simp at h
  | v :: r, _, _, _, 0, u, h, e => by
    obtain ⟨x, xs', rfl, h1, h2, _⟩ := h
    simp at e; subst e
    exact ⟨x, rfl, h1, h2⟩
  | v :: r, _, _, _, i + 1, u, h, e => by
    obtain ⟨x, xs', rfl, _, _, h3⟩ := h
    simpa using RVs.get h3 (by simpa using e)

theorem RVs.append {I : IMap} : ∀ {vs us : List AV} {Ms : List MMap} {one : Bool} {xs ys : List Value}, RVs I vs Ms one xs → RVs I us Ms one ys → RVs I (vs ++ us) Ms one (xs ++ ys)
  | [], _, _, _, _, _, h, k => by rw [show _ = [] from h]; exact k
  | v :: r, _, _, _, _, _, h, k => by
    obtain ⟨x, xs', rfl, h1, h2, h3⟩ := h
    exact ⟨x, xs' ++ _, rfl, h1, h2, RVs.append h3 k⟩

theorem RVs.take {I : IMap} : ∀ (n : Nat) {vs : List AV} {Ms : List MMap} {one : Bool} {xs : List Value}, RVs I vs Ms one xs → RVs I (vs.take n) Ms one (xs.take n)
  | 0, _, _, _, _, _ => by simp [RVs]
  | n + 1, [], _, _, _, h => by rw [show _ = [] from h]; simp [RVs]
  | n + 1, v :: r, _, _, _, h => by
    obtain ⟨x, xs', rfl, h1, h2, h3⟩ := h
    exact ⟨x, xs'.take n, rfl, h1, h2, RVs.take n h3⟩

theorem RVs.drop {I : IMap} : ∀ (n : Nat) {vs : List AV} {Ms : List MMap} {one : Bool} {xs : List Value}, RVs I vs Ms one xs → RVs I (vs.drop n) Ms one (xs.drop n)
  | 0, _, _, _, _, h => h
  | n + 1, [], _, _, _, h => by rw [show _ = [] from h]; simp [RVs]
  | n + 1, v :: r, _, _, _, h => by
    obtain ⟨x, xs', rfl, h1, h2, h3⟩ := h
    exact RVs.drop n h3

theorem RVs.weak {I : IMap} : ∀ {vs : List AV} {Ms : List MMap} {one : Bool} {xs : List Value}, RVs I vs Ms one xs → RVs I vs Ms false xs
  | [], _, _, _, h => h
  | v :: r, _, _, _, h => by
    obtain ⟨x, xs', rfl, h1, h2, h3⟩ := h
    exact ⟨x, xs', rfl, h1, fun h => (by cases h), RVs.weak h3⟩

/-- From facts at each place. -/
theorem RVs.of_get {I : IMap} {Ms : List MMap} {one : Bool} : ∀ {vs : List AV} {xs : List Value}, xs.length = vs.length → (∀ (i : Nat) (v : AV), vs[i]? = some v → ∃ x : Value, xs[i]? = some x ∧ RV I v Ms x ∧ (one = true → x.oneCell = true)) → RVs I vs Ms one xs
  | [], xs, hl, _ => by simp at hl; exact hl
  | v :: r, [], hl, _ => by simp at hl
  | v :: r, x :: xs, hl, h => by
    obtain ⟨y, e, h1, h2⟩ := h 0 v rfl
    simp at e; subst e
    exact ⟨x, xs, rfl, h1, h2, RVs.of_get (by simpa using hl) fun i u hu => by simpa using h (i + 1) u (by simpa using hu)⟩

theorem RVs.set {I : IMap} : ∀ {vs : List AV} {Ms : List MMap} {one : Bool} {xs : List Value} (i : Nat) {v : AV} {x : Value}, RVs I vs Ms one xs → RV I v Ms x → (one = true → x.oneCell = true) → RVs I (vs.set i v) Ms one (xs.set i x)
  | [], _, _, _, _, _, _, h, _, _ => by rw [show _ = [] from h]; simp [RVs]
  | v :: r, _, _, _, 0, _, _, h, k, o => by
    obtain ⟨x, xs', rfl, h1, h2, h3⟩ := h
    exact ⟨_, xs', rfl, k, o, h3⟩
  | v :: r, _, _, _, i + 1, _, _, h, k, o => by
    obtain ⟨x, xs', rfl, h1, h2, h3⟩ := h
    exact ⟨x, xs'.set i _, rfl, h1, h2, RVs.set i h3 k o⟩

/-! ### Constants -/
theorem RVs.const {I : IMap} {Ms : List MMap} {one : Bool} {f : Value → Option AV} (hf : ∀ x v, f x = some v → RV I v Ms x ∧ (one = true → x.oneCell = true)) : ∀ {l : List Value} {vs : List AV}, AS.mapO f l = some vs → RVs I vs Ms one l
  | [], _, e => by simp only [AS.mapO, Option.some.injEq] at e; subst e; rfl
  | x :: r, _, e => by
    obtain ⟨y, ys', rfl, e1, e2⟩ := mapO_cons e
    have := hf _ _ e1
    exact ⟨x, r, rfl, this.1, this.2, RVs.const hf e2⟩

theorem cV_RV {I : IMap} {Ms : List MMap} : ∀ (k : Nat) (x : Value) (v : AV), cV k x = some v → RV I v Ms x
  | 0, _, _, h => by simp [cV] at h
  | k + 1, x, v, h => by
    unfold cV at h
    split at h
    · cases h; rfl
    · cases h; rfl
    · cases h; exact ⟨_, rfl, rfl⟩
    · cases h; rfl
    · cases h; exact ⟨none, 0, [], rfl, rfl, fun _ => ⟨rfl, rfl⟩, Nat.le_refl _, fun c hc => by cases hc; rfl, rfl, rfl, fun h => absurd rfl h⟩
    · cases h; rfl
    · cases h; rfl
    · cases h; rfl
    · rename_i cs
      simp only [Option.map_eq_some_iff] at h
      obtain ⟨vs, h1, rfl⟩ := h
      refine ⟨cs, rfl, RVs.const (fun y u hu => ?_) h1⟩
      cases ho : y.oneCell with
      | true => rw [ho] at hu; exact ⟨cV_RV k y u hu, fun _ => rfl⟩
      | false => rw [ho] at hu; cases hu
    · rename_i f fi ca
      split at h
      · rename_i fi' ca' h1 h2
        cases h
        exact ⟨fi, ca, rfl, RVs.const (fun y u hu => ⟨cV_RV k y u hu, fun h => by cases h⟩) h1, RVs.const (fun y u hu => ⟨cV_RV k y u hu, fun h => by cases h⟩) h2⟩
      · cases h
    · cases h

/-! ### The memory -/
structure G where
  Ms : List MMap
  I : IMap
  O : Nat → Option (Nat × Nat)
  B : Nat → Prop

def LSR : LS → LoopState → Prop
  | .ready, .ready => True
  | .busy, .busy => True
  | .done, .done => True
  | _, _ => False

def XR : IX → Code → Prop
  | .exit i, .exit j => i = j
  | .ret, .ret => True
  | _, _ => False

def PendR : Option IX → Option Code → Prop
  | none, none => True
  | some x, some c => XR x c
  | _, _ => False

def EnvR (I : IMap) (Ms : List MMap) (n : Nat) (e : Env) (tmps : Array Value) : Prop :=
  n ≤ tmps.size ∧ ∀ i, RV I (Env.get e i) Ms (tmps.getD i undef)

def CodeR (P : Program) (n : Nat) (c : Code) (ir : IC) : Prop := ∃ an fn all, cC P an fn n all true c = some ir

structure LoopR (P : Program) (I : IMap) (Ms : List MMap) (L : ILoop) (r : Loop) : Prop where
  state : LSR L.state r.state
  pending : PendR L.pending r.pending
  env : ∃ n, EnvR I Ms n L.env r.tmps ∧ CodeR P n r.assign L.assign ∧ CodeR P n r.body L.body ∧ ∀ t ∈ L.params, t < n
  params : r.params.toList = L.params

/-- The row of bytes that a builder owns. -/
def RowB (hp : Array Obj) (e : TypeId) (v : Value) (bs : List UInt8) : Prop :=
  (v = .slice none 0 0 ∧ bs = []) ∨ ∃ (q cap : Nat) (cur : Array Value) (fz : Nat × Nat), v = .slice (some ⟨q, 0, none⟩) bs.length cap ∧ hp[q]? = some (.cells cur e fz) ∧ fz.2 ≤ bs.length ∧ bs.length ≤ cap ∧ cap ≤ maxLen ∧ cur.size = cap ∧ cur.toList.take bs.length = bs.map fun (b : UInt8) => Value.int .u8 b.toNat

def rowOf : Value → Option Nat
  | .slice (some a) _ _ => some a.block
  | _ => none

def ObjR (P : Program) (I : IMap) (O : Nat → Option (Nat × Nat)) (M : MMap) (Ms : List MMap) (hp : Array Obj) (lvl id : Nat) : AObj → Prop
  | .dead => True
  | .slot => ∀ lim, M id lim = none
  | .cells cs => ∃ (blk tot : Nat) (c : Array Value) (e : TypeId), M id cs.length = some (blk, tot) ∧ O blk = some (lvl, id) ∧ hp[blk]? = some (.cells c e (0, 0)) ∧ cs.length ≤ tot ∧ tot ≤ c.size ∧ (∀ lim p, M id lim = some p → lim ≤ cs.length) ∧
      ∀ (i : Nat) (v : AV), cs[i]? = some v → ∃ x : Value, c[i]? = some x ∧ RV I v Ms x ∧ x.oneCell = true
  | .map es clock => ∃ (blk tot : Nat) (es' : Array MapEntry), M id 0 = some (blk, tot) ∧ O blk = some (lvl, id) ∧ hp[blk]? = some (.map es' clock) ∧ es'.size = es.length ∧
      ∀ (i : Nat) (k v : AV) (b : Nat), es[i]? = some (k, v, b) → ∃ y : MapEntry, es'[i]? = some y ∧ RV I k Ms y.key ∧ RV I v Ms y.val ∧ y.born = b
  | .loop L => ∃ blk tot r, M id 0 = some (blk, tot) ∧ O blk = some (lvl, id) ∧ hp[blk]? = some (.loop r) ∧ LoopR P I Ms L r
  | .iter m => ∃ blk tot mo s l, M id 0 = some (blk, tot) ∧ O blk = some (lvl, id) ∧ hp[blk]? = some (.mapIter mo s #[] l) ∧ match m with
    | none => mo = none
    | some j => RV I (.map j) Ms (.map mo)
  | .bld T e bs => ∃ (blk tot : Nat) (p v : Value), M id 0 = some (blk, tot) ∧ O blk = some (lvl, id) ∧ hp[blk]? = some (.cells #[p, v] T (0, 0)) ∧ (p = .pointer none ∨ p = .pointer (some ⟨blk, 0, none⟩)) ∧ (∀ q, rowOf v = some q → q ≠ blk ∧ O q = some (lvl, id)) ∧ RowB hp e v bs

def RelS (P : Program) (I : IMap) (O : Nat → Option (Nat × Nat)) (hp : Array Obj) : List Heap → List MMap → Prop
  | [], [] => True
  | H :: S, M :: Ms => (∀ id o, H[id]? = some o → ObjR P I O M (M :: Ms) hp S.length id o) ∧ (∀ id lim p, M id lim = some p → id < H.length ∧ O p.1 = some (S.length, id)) ∧ RelS P I O hp S Ms
  | _, _ => False

structure Rel (P : Program) (g : G) (S : Stack) (w : World) : Prop where
  rs : RelS P g.I g.O w.heap S g.Ms
  im : ∀ b o, g.I b = some o → w.heap[b]? = some o ∧ g.O b = none ∧ ¬ g.B b
  ow : ∀ b x, g.O b = some x → b < w.heap.size ∧ ¬ g.B b
  bm : ∀ b, g.B b → w.heap[b]? = some (.deferred (some []))
  lv : ∀ b l id, g.O b = some (l, id) → l < S.length

/-- What may have become of the world and its reading while levels below 'lvl' were at work. -/
structure Le (lvl : Nat) (g g' : G) (w w' : World) : Prop where
  os : w'.os = w.os
  tape : w'.tape = w.tape
  output : w'.output = w.output
  size : w.heap.size ≤ w'.heap.size
  ms : MsLe g.Ms g'.Ms
  im : ∀ b o, g.I b = some o → g'.I b = some o
  oO : ∀ b, b < w.heap.size → g'.O b = g.O b
  oI : ∀ b, b < w.heap.size → g'.I b = g.I b
  oB : ∀ b, b < w.heap.size → (g'.B b ↔ g.B b)
  frame : ∀ b, b < w.heap.size → (∀ l id, g.O b = some (l, id) → lvl ≤ l) → w'.heap[b]? = w.heap[b]?

theorem Le.refl (lvl : Nat) (g : G) (w : World) : Le lvl g g w w := ⟨rfl, rfl, rfl, Nat.le_refl _, .refl _, fun _ _ h => h, fun _ _ => rfl, fun _ _ => rfl, fun _ _ => Iff.rfl, fun _ _ _ => rfl⟩

theorem Le.trans {lvl : Nat} {g g' g'' : G} {w w' w'' : World} (h : Le lvl g g' w w') (k : Le lvl g' g'' w' w'') : Le lvl g g'' w w'' where
  os := k.os.trans h.os
  tape := k.tape.trans h.tape
  output := k.output.trans h.output
  size := Nat.le_trans h.size k.size
  ms := h.ms.trans k.ms
  im := fun b o hb => k.im b o (h.im b o hb)
  oO := fun b hb => (k.oO b (Nat.lt_of_lt_of_le hb h.size)).trans (h.oO b hb)
  oI := fun b hb => (k.oI b (Nat.lt_of_lt_of_le hb h.size)).trans (h.oI b hb)
  oB := fun b hb => (k.oB b (Nat.lt_of_lt_of_le hb h.size)).trans (h.oB b hb)
  frame := fun b hb ho => (k.frame b (Nat.lt_of_lt_of_le hb h.size) (fun l id e => ho l id ((h.oO b hb).symm.trans e))).trans (h.frame b hb ho)

theorem RV.le {lvl : Nat} {g g' : G} {w w' : World} (h : Le lvl g g' w w') {v : AV} {x : Value} (hv : RV g.I v g.Ms x) : RV g'.I v g'.Ms x := RV.mono h.im v h.ms hv
theorem RVs.le {lvl : Nat} {g g' : G} {w w' : World} (h : Le lvl g g' w w') {v : List AV} {one : Bool} {x : List Value} (hv : RVs g.I v g.Ms one x) : RVs g'.I v g'.Ms one x := RVs.mono h.im v h.ms hv
theorem EnvR.le {lvl : Nat} {g g' : G} {w w' : World} (h : Le lvl g g' w w') {n : Nat} {e : Env} {t : Array Value} (hv : EnvR g.I g.Ms n e t) : EnvR g'.I g'.Ms n e t := ⟨hv.1, fun i => RV.le h (hv.2 i)⟩

/-- Draws alone. -/
theorem Rel.drawn {P : Program} {g : G} {S : Stack} {w : World} (h : Rel P g S w) (d : Nat) : Rel P g S { w with drawn := d } := ⟨h.rs, h.im, h.ow, h.bm, h.lv⟩

theorem Le.drawn (lvl : Nat) (g : G) (w : World) (d : Nat) : Le lvl g g w { w with drawn := d } := ⟨rfl, rfl, rfl, Nat.le_refl _, .refl _, fun _ _ h => h, fun _ _ => rfl, fun _ _ => rfl, fun _ _ => Iff.rfl, fun _ _ _ => rfl⟩

end Go.AS
