/-
  Operation by operation (7): slicing, lengths, comparisons. By an AI agent.
-/
import Derived.Test.YtefnpnokbanbkaaAs9
set_option linter.all false
namespace Go.AS
open Go
section
variable {P : Program} {an : Ann} {fn : Nat} {g : G} {H H' : Heap} {S : Stack} {w : World} {n : Nat} {e : Env} {a : Act} {iop : IOp} {v : AV} {o : Oper} {M : MMap} {Ms : List MMap}

theorem cOo_RV {I : IMap} {Ms : List MMap} {n : Nat} {e : Env} {a : Act} (he : EnvR I Ms n e a.tmps) {x : Option Operand} {y : Option Opd} (h : cOo x = some y) :
    (x = none ∧ y = none) ∨ ∃ p q, x = some p ∧ y = some q ∧ RV I (q.ev e) Ms (a.eval p) := by
  cases x with
  | none => simp only [cOo, Option.some.injEq] at h; exact .inl ⟨rfl, h.symm⟩
  | some p =>
    simp only [cOo, Option.map_eq_some_iff] at h
    obtain ⟨q, h1, rfl⟩ := h
    exact .inr ⟨p, q, rfl, rfl, cO_RV h1 he⟩

theorem bnd_run {I : IMap} {Ms : List MMap} {e : Env} {x : Value} {o : Opd} (hr : RV I (o.ev e) Ms x) {most k : Nat} (h : bnd o e most = some k) {cap : Nat} (hc : most ≤ cap) (code : BoundsCode) :
    (Instr.sliceBound x cap code).run P w = .ok k w ∧ k ≤ most := by
  unfold bnd at h
  split at h
  · rename_i kd m hk
    cases hb : (decide (0 ≤ m) && decide (m ≤ (most : Int))) with
    | false => rw [hb] at h; cases h
    | true =>
      rw [hb] at h
      cases h
      simp only [Bool.and_eq_true, decide_eq_true_eq] at hb
      rw [hk] at hr
      rw [RV.int_inv hr]
      exact ⟨run_sliceBound w _ _ _ _ hb.1 (by omega), by omega⟩
  · cases h

/-- The bounds of a slicing without a maximum. 'most': as far as the evaluator lets it go. -/
theorem cut_run {I : IMap} {Ms : List MMap} {n : Nat} {e : Env} {a : Act} (he : EnvR I Ms n e a.tmps) {lo hi : Option Operand} {lo' hi' : Option Opd} (hlo : cOo lo = some lo') (hhi : cOo hi = some hi') {len most l h : Nat}
    (hc : cut lo' hi' e len most = some (l, h)) (isSlice : Bool) (cap : Nat) (hm : most ≤ cap) (hl : len ≤ most) :
    (Instr.sliceBounds isSlice len cap (lo.map a.eval) (hi.map a.eval) none).run P w = .ok (l, h, cap) w ∧ l ≤ h ∧ h ≤ most := by
  unfold cut at hc
  split at hc
  · cases hc
  · rename_i h0 hh
    simp only [Option.map_eq_some_iff, Prod.mk.injEq] at hc
    obtain ⟨l0, hl0, rfl, rfl⟩ := hc
    rcases cOo_RV he hhi with ⟨rfl, rfl⟩ | ⟨p, q, rfl, rfl, hr⟩
    · simp only [cutHi, Option.some.injEq] at hh
      subst hh
      rcases cOo_RV he hlo with ⟨rfl, rfl⟩ | ⟨p, q, rfl, rfl, hr⟩
      · simp only [cutLo, Option.some.injEq] at hl0
        subst hl0
        exact ⟨by simp [Instr.sliceBounds], Nat.zero_le _, hl⟩
      · obtain ⟨k1, k2⟩ := bnd_run (P := P) (w := w) hr hl0 (Nat.le_refl _) .sliceB
        exact ⟨by simp [Instr.sliceBounds, k1], k2, hl⟩
    · obtain ⟨k1, k2⟩ := bnd_run (P := P) (w := w) hr hh hm (if isSlice then .sliceAcap else .sliceAlen)
      rcases cOo_RV he hlo with ⟨rfl, rfl⟩ | ⟨p', q', rfl, rfl, hr'⟩
      · simp only [cutLo, Option.some.injEq] at hl0
        subst hl0
        exact ⟨by simp [Instr.sliceBounds, k1], Nat.zero_le _, k2⟩
      · obtain ⟨k3, k4⟩ := bnd_run (P := P) (w := w) hr' hl0 (Nat.le_refl _) .sliceB
        exact ⟨by simp [Instr.sliceBounds, k1, k3], k4, k2⟩

theorem cut3_run {I : IMap} {Ms : List MMap} {n : Nat} {e : Env} {a : Act} (he : EnvR I Ms n e a.tmps) {lo hi : Option Operand} {m : Operand} {lo' hi' : Option Opd} {m' : Opd} (hlo : cOo lo = some lo') (hhi : cOo hi = some hi') (hm' : cO m = some m') {len most l h k : Nat}
    (hc : cut3 lo' hi' m' e most = some (l, h, k)) (isSlice : Bool) (cap : Nat) (hm : most ≤ cap) :
    (Instr.sliceBounds isSlice len cap (lo.map a.eval) (hi.map a.eval) (some (a.eval m))).run P w = .ok (l, h, k) w ∧ l ≤ h ∧ h ≤ k ∧ k ≤ most := by
  unfold cut3 at hc
  split at hc
  · rename_i k0 o hk0
    split at hc
    · rename_i h0 hh
      simp only [Option.map_eq_some_iff, Prod.mk.injEq] at hc
      obtain ⟨l0, hl0, rfl, rfl, rfl⟩ := hc
      obtain ⟨r1, r2⟩ := bnd_run (P := P) (w := w) (cO_RV hm' he) hk0 hm (if isSlice then .slice3Acap else .slice3Alen)
      rcases cOo_RV he hhi with ⟨rfl, hq⟩ | ⟨p, q, rfl, hq, hr⟩
      · cases hq
      · cases hq
        obtain ⟨k1, k2⟩ := bnd_run (P := P) (w := w) hr hh (Nat.le_refl _) .slice3B
        rcases cOo_RV he hlo with ⟨rfl, rfl⟩ | ⟨p', q', rfl, rfl, hr'⟩
        · simp only [cutLo, Option.some.injEq] at hl0
          subst hl0
          exact ⟨by simp [Instr.sliceBounds, r1, k1], Nat.zero_le _, k2, r2⟩
        · obtain ⟨k3, k4⟩ := bnd_run (P := P) (w := w) hr' hl0 (Nat.le_refl _) .slice3C
          exact ⟨by simp [Instr.sliceBounds, r1, k1, k3], k4, k2, r2⟩
    · cases hc
  · cases hc

/-- A part of a row that nobody writes. -/
theorem RV.sub {I : IMap} {Ms : List MMap} {nl : Bool} {es es' len : Nat} {cap : Option Nat} {cs : List AV} {ad : Option Addr} {rcap : Nat} (hr : RV I (.imm nl es' len cap cs) Ms (.slice ad len rcap)) (he : es = es' ∨ len = 0) {l h m : Nat} (h1 : l ≤ h) (h2 : h ≤ len) (h3 : h ≤ m) (h4 : m ≤ rcap)
    (cap' : Option Nat) (hcap : ∀ c, cap' = some c → m - l = c) :
    RV I (.imm nl es (h - l) cap' ((cs.drop (l * es)).take ((h - l) * es))) Ms (.slice (if m = l then ad else ad.map (·.add (l * es))) (h - l) (m - l)) := by
  obtain ⟨a, rc, xs, f3, g1, g2, g3, g4, g5, g6, g7⟩ := hr
  cases f3
  have hlen : cs.length = len * es := by
    rcases he with rfl | h0
    · exact g5
    · subst h0; simpa using g5
  refine ⟨_, _, (xs.drop (l * es)).take ((h - l) * es), rfl, ?_, ?_, by omega, fun c hc => hcap c hc, ?_, (g6.drop _).take _, ?_⟩
  · rw [g1]
    split
    · rfl
    · cases ad <;> rfl
  · intro hn
    have := g2 hn
    omega
  · rw [List.length_take, List.length_drop, hlen, Nat.min_eq_left]
    rw [← Nat.sub_mul]
    exact Nat.mul_le_mul_right _ (by omega)
  · intro hne
    have hcs : cs ≠ [] := by
      intro h0; subst h0; simp at hne
    obtain ⟨blk, off, c, el, fz, q1, q2, q3⟩ := g7 hcs
    have hml : ¬ m = l := by
      intro e0
      have : h - l = 0 := by omega
      rw [this] at hne
      simp at hne
    subst q1
    refine ⟨blk, off + l * es, c, el, fz, by rw [if_neg hml]; simp [Addr.add_none], q2, fun i y hy => ?_⟩
    rw [List.getElem?_take] at hy
    split at hy
    · rw [List.getElem?_drop] at hy
      have := q3 _ _ hy
      rwa [← Nat.add_assoc] at this
    · cases hy

theorem sim_slice {t : TypeId} {x : Operand} {lo hi mx : Option Operand} (ho : o.op = .slice t x lo hi mx) : Goal P an fn g H S w n e a o := by
  intro iop v H' he h hc hv
  rw [ho] at hc
  simp only [cOp] at hc
  split at hc
  · rename_i x' lo' hi' hu hx hlo hhi hmx
    cases hc
    have hmx0 : mx = none := by
      cases mx with
      | none => rfl
      | some y => simp [cOo] at hmx
    subst hmx0
    have hp := cO_RV hx he
    simp only [evOp] at hv
    split at hv
    · rename_i s hxe
      split at hv
      · rename_i l h' hcut
        obtain ⟨rfl, rfl⟩ := ok_inv hv
        rw [hxe] at hp
        obtain ⟨b, f3, rfl⟩ := hp
        have hbs : b.size = b.data.toList.length := Array.length_toList.symm
        obtain ⟨r1, r2, r3⟩ := cut_run (P := P) (w := w) he hlo hhi hcut false _ (Nat.le_refl _) (Nat.le_refl _)
        rw [← hbs] at r1
        refine .pure h (x := .string (b.extract l h')) (by simp [execOp, ho, f3, Instr.sliceAt, Instr.slice, run_underlying' hu, r1]) ⟨_, rfl, ?_⟩
        rw [ByteArray.data_extract, Array.toList_extract, List.extract_eq_take_drop]
      · cases hv
    · cases hv
  · rename_i el x' lo' hi' mx' hu hx hlo hhi hmx
    simp only [Option.map_eq_some_iff] at hc
    obtain ⟨es, hs, rfl⟩ := hc
    have hp := cO_RV hx he
    have hrun : ∀ ad len rcap l h' m, (Instr.sliceBounds true len rcap (lo.map a.eval) (hi.map a.eval) (mx.map a.eval)).run P w = .ok (l, h', m) w →
        (Instr.sliceAt t (.slice ad len rcap) (lo.map a.eval) (hi.map a.eval) (mx.map a.eval)).run P w = .ok (.slice (if m = l then ad else ad.map (·.add (l * es))) (h' - l) (m - l)) w := fun ad len rcap l h' m hb => by
      simp [Instr.sliceAt, Instr.slice, run_underlying' hu, hb, run_sizeOf' hs]
    simp only [evOp] at hv
    split at hv
    · rename_i nl es' len cap cs hxe
      cases hb : (Nat.beq es es' || Nat.beq len 0) with
      | false => rw [hb] at hv; cases hv
      | true =>
        rw [hb] at hv
        simp only [Bool.not_true, cond_false] at hv
        have hes : es = es' ∨ len = 0 := by
          simp only [Bool.or_eq_true] at hb
          rcases hb with hb | hb
          · exact .inl (Nat.eq_of_beq_eq_true hb)
          · exact .inr (Nat.eq_of_beq_eq_true hb)
        rw [hxe] at hp
        have hp' := hp
        obtain ⟨ad, rcap, xs, f3, g1, g2, g3, g4, _⟩ := hp'
        rw [f3] at hp
        rcases cOo_RV he hmx with ⟨rfl, rfl⟩ | ⟨p, q, rfl, rfl, hr⟩
        · simp only at hv
          split at hv
          · rename_i l h' hcut
            obtain ⟨rfl, rfl⟩ := ok_inv hv
            obtain ⟨r1, r2, r3⟩ := cut_run (P := P) (w := w) he hlo hhi hcut true rcap g3 (Nat.le_refl _)
            refine .pure h (by simp [execOp, ho, f3]; rw [show (none : Option Value) = (none : Option Operand).map a.eval from rfl, hrun _ _ _ _ _ _ r1]; rfl) (RV.imm0 (RV.sub hp hes r2 r3 (by omega) (Nat.le_refl _) _ fun c hc => ?_))
            simp only [Option.map_eq_some_iff] at hc
            obtain ⟨c0, hc0, rfl⟩ := hc
            rw [g4 c0 hc0]
          · cases hv
        · simp only at hv
          split at hv
          · rename_i l h' m hcut
            obtain ⟨rfl, rfl⟩ := ok_inv hv
            have hq : cO p = some q := by simpa [cOo] using hmx
            obtain ⟨r1, r2, r3, r4⟩ := cut3_run (P := P) (w := w) (len := len) he hlo hhi hq hcut true rcap g3
            exact .pure h (by simp [execOp, ho, f3]; rw [show some (a.eval p) = (some p).map a.eval from rfl, hrun _ _ _ _ _ _ r1]; rfl) (RV.imm0 (RV.sub hp hes r2 (by omega) r3 (by omega) _ fun c hc => by cases hc; rfl))
          · cases hv
    · rename_i id lim off es' len cap ex hxe
      cases hb : Nat.beq es es' with
      | false => rw [hb] at hv; cases hv
      | true =>
        rw [hb] at hv
        simp only [Bool.not_true, cond_false] at hv
        have hes := Nat.eq_of_beq_eq_true hb
        subst hes
        rw [hxe] at hp
        obtain ⟨M', Ms', blk, tot, ad, rcap, f1, f2, f3, g1, g2, g3, g4, g5⟩ := hp
        have hadd : ∀ l m, l ≤ m → m ≤ rcap → (m - l ≠ 0 → (if m = l then some ad else (some ad).map (·.add (l * es))) = some ⟨blk, off + l * es, none⟩) := fun l m h1 h2 h3 => by
          rw [if_neg (by omega)]
          have := g5 (by omega)
          subst this
          simp [Addr.add_none]
        have hsome : ∀ l m, ∃ ad', (if m = l then some ad else (some ad).map (·.add (l * es))) = some ad' := fun l m => by split <;> exact ⟨_, rfl⟩
        rcases cOo_RV he hmx with ⟨rfl, rfl⟩ | ⟨p, q, rfl, rfl, hr⟩
        · simp only at hv
          split at hv
          · rename_i l h' hcut
            obtain ⟨rfl, rfl⟩ := ok_inv hv
            obtain ⟨r1, r2, r3⟩ := cut_run (P := P) (w := w) he hlo hhi hcut true rcap g2 g1
            obtain ⟨ad', had⟩ := hsome l rcap
            refine .pure h (by simp [execOp, ho, f3]; rw [show (none : Option Value) = (none : Option Operand).map a.eval from rfl, hrun _ _ _ _ _ _ r1]; rfl) ⟨M', Ms', blk, tot, ad', rcap - l, f1, f2, by rw [had], by omega, by omega, ?_, fun hx => by rw [g4 hx], fun h0 => ?_⟩
            · have : l * es + (rcap - l) * es = rcap * es := by rw [← Nat.add_mul]; congr 1; omega
              omega
            · have := hadd l rcap (by omega) (Nat.le_refl _) h0
              rw [had] at this
              exact Option.some.inj this
          · cases hv
        · simp only at hv
          split at hv
          · rename_i l h' m hcut
            obtain ⟨rfl, rfl⟩ := ok_inv hv
            have hq : cO p = some q := by simpa [cOo] using hmx
            obtain ⟨r1, r2, r3, r4⟩ := cut3_run (P := P) (w := w) (len := len) he hlo hhi hq hcut true rcap g2
            obtain ⟨ad', had⟩ := hsome l m
            refine .pure h (by simp [execOp, ho, f3]; rw [show some (a.eval p) = (some p).map a.eval from rfl, hrun _ _ _ _ _ _ r1]; rfl) ⟨M', Ms', blk, tot, ad', m - l, f1, f2, by rw [had], by omega, by omega, ?_, fun hx => rfl, fun h0 => ?_⟩
            · have : l * es + (m - l) * es = m * es := by rw [← Nat.add_mul]; congr 1; omega
              have : m * es ≤ rcap * es := Nat.mul_le_mul_right _ (by omega)
              omega
            · have := hadd l m (by omega) (by omega) h0
              rw [had] at this
              exact Option.some.inj this
          · cases hv
    · cases hv
  · rename_i m el x' lo' hi' mx' hu hx hlo hhi hmx
    simp only [Option.map_eq_some_iff] at hc
    obtain ⟨es, hs, rfl⟩ := hc
    have hp := cO_RV hx he
    simp only [evOp] at hv
    split at hv
    · rename_i id lim off hxe
      have hmx0 : mx = none := by
        rcases cOo_RV he hmx with ⟨rfl, _⟩ | ⟨p, q, rfl, hq, _⟩
        · rfl
        · cases hq
      subst hmx0
      split at hv
      · rename_i l h' cs hcut hid
        cases hb : (Nat.beq cs.length lim && Nat.ble (off + m * es) lim) with
        | false => rw [hb] at hv; cases hv
        | true =>
          rw [hb] at hv
          obtain ⟨rfl, rfl⟩ := ok_inv hv
          simp only [Bool.and_eq_true] at hb
          have hle := Nat.le_of_ble_eq_true hb.2
          have hlm := Nat.eq_of_beq_eq_true hb.1
          subst hlm
          rw [hxe] at hp
          obtain ⟨M', Ms', blk, tot, f1, f2, f3⟩ := hp
          obtain ⟨r1, r2, r3⟩ := cut_run (P := P) (w := w) he hlo hhi hcut false m (Nat.le_refl _) (Nat.le_refl _)
          have htot : cs.length ≤ tot := by
            obtain ⟨M, Ms, hg⟩ := h.Ms_cons
            obtain ⟨blk', tot', c, el', k1, k2, k3, k4, k5, k6, k7⟩ := h.cells hg hid
            rw [hg] at f1
            cases f1
            rw [f2] at k1
            cases k1
            exact k4
          refine .pure h (x := .slice (some (if m = l then ⟨blk, off, none⟩ else (⟨blk, off, none⟩ : Addr).add (l * es))) (h' - l) (m - l)) (by simp [execOp, ho, f3, Instr.sliceAt, Instr.sureAddr, run_underlying' hu, r1, run_sizeOf' hs]) ⟨M', Ms', blk, tot, _, m - l, f1, f2, rfl, by omega, Nat.le_refl _, ?_, fun _ => rfl, fun h0 => ?_⟩
          · have : l * es + (m - l) * es = m * es := by rw [← Nat.add_mul]; congr 1; omega
            omega
          · rw [if_neg (by omega), Addr.add_none]
      · cases hv
    · cases hv
  · cases hc
end
end Go.AS
