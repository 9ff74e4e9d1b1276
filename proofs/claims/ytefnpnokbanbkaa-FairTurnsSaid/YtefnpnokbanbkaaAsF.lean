/-
  What a value shows, when its level's memory is given up, or is not written for a while. By an AI agent.
-/
import Derived.Test.YtefnpnokbanbkaaAs18
set_option linter.all false
namespace Go.AS
open Go
set_option maxHeartbeats 1000000

theorem frz_RV {I I' : IMap} {N : MMap} {Ns : List MMap} {H : Heap} (hI : ∀ b o, I b = some o → I' b = some o)
    (hcells : ∀ id cs, H[id]? = some (.cells cs) → ∃ (blk tot : Nat) (c : Array Value) (e : TypeId), N id cs.length = some (blk, tot) ∧ I' blk = some (.cells c e (0, 0)) ∧ cs.length ≤ tot ∧ tot ≤ c.size ∧ RVs I cs (N :: Ns) true (c.toList.take cs.length)) :
    ∀ (k : Nat) (v v' : AV) (x : Value), frz H k v = some v' → RV I v (N :: Ns) x → RV I' v' (N :: Ns) x
  | 0, v, v', x, h, _ => by simp [frz] at h
  | k + 1, v, v', x, h, hx => by
    have ih := fun v v' x => frz_RV (I := I) (I' := I') (Ns := Ns) hI hcells k v v' x
    unfold frz at h
    cases hf : hfree v with
    | true =>
      rw [hf] at h
      cases h
      exact RV.mono hI _ (.refl _) hx
    | false =>
      rw [hf] at h
      simp only [cond_false] at h
      split at h
      · -- ptr
        rename_i id lim off
        split at h
        · rename_i cs hid
          cases hb : Nat.beq cs.length lim with
          | false => rw [hb] at h; cases h
          | true =>
            rw [hb] at h
            have := Nat.eq_of_beq_eq_true hb
            subst this
            simp only [cond_true, Option.map_eq_some_iff] at h
            obtain ⟨row, h1, rfl⟩ := h
            obtain ⟨M, Ms', blk, tot, hM, k1, rfl⟩ := hx
            cases hM
            obtain ⟨blk', tot', c, e, j1, j2, j3, j4, j5⟩ := hcells id cs hid
            cases k1.symm.trans j1
            refine ⟨blk, 0, c, e, (0, 0), c.toList.take cs.length, by rw [Nat.zero_add], j2, RVs.mapO (fun v v' x => ih v v' x) cs h1 j5, fun i y hy => ?_⟩
            rw [List.getElem?_take] at hy
            split at hy
            · rw [Nat.zero_add]; rwa [Array.getElem?_toList] at hy
            · cases hy
        · cases h
      · -- ref
        rename_i id lim off es len cap ex
        split at h
        · rename_i cs hid
          cases hb : (Nat.beq cs.length lim && Nat.ble (off + len * es) lim) with
          | false => rw [hb] at h; cases h
          | true =>
            rw [hb] at h
            simp only [Bool.and_eq_true] at hb
            have := Nat.eq_of_beq_eq_true hb.1
            subst this
            have hfit := Nat.le_of_ble_eq_true hb.2
            simp only [cond_true, Option.map_eq_some_iff] at h
            obtain ⟨row, h1, rfl⟩ := h
            obtain ⟨M, Ms', blk, tot, a, rcap, hM, k1, rfl, k2, k3, k4, k5, k6⟩ := hx
            cases hM
            obtain ⟨blk', tot', c, e, j1, j2, j3, j4, j5⟩ := hcells id cs hid
            cases k1.symm.trans j1
            have hlen := mapO_length h1
            have hrow : row.length = len * es := by rw [hlen]; simp; omega
            refine ⟨some a, rcap, ((c.toList.take cs.length).drop off).take (len * es), rfl, rfl, (fun h => by cases h), Nat.le_trans k2 k3, (fun c h => by cases h), hrow, RVs.mapO (fun v v' x => ih v v' x) _ h1 ((j5.drop off).take _), fun hne => ?_⟩
            have hr0 : rcap ≠ 0 := fun h0 => by
              subst h0
              have : len = 0 := by omega
              subst this
              simp at hrow
              exact hne hrow
            refine ⟨blk, off, c, e, (0, 0), by rw [k6 hr0], j2, fun i y hy => ?_⟩
            rw [List.getElem?_take] at hy
            split at hy
            · rw [List.getElem?_drop, List.getElem?_take] at hy
              split at hy
              · rwa [Array.getElem?_toList] at hy
              · cases hy
            · cases hy
        · cases h
      · -- iptr
        rename_i row o
        simp only [Option.map_eq_some_iff] at h
        obtain ⟨row', h1, rfl⟩ := h
        obtain ⟨blk, base, c, e, fz, xs, rfl, k1, k2, k3⟩ := hx
        exact ⟨blk, base, c, e, fz, xs, rfl, hI _ _ k1, RVs.mapO (fun v v' x => ih v v' x) _ h1 k2, k3⟩
      · -- imm
        rename_i nl es l c cs
        simp only [Option.map_eq_some_iff] at h
        obtain ⟨cs', h1, rfl⟩ := h
        obtain ⟨a, rcap, xs, rfl, k1, k2, k3, k4, k5, k6, k7⟩ := hx
        have hlen := mapO_length h1
        refine ⟨a, rcap, xs, rfl, k1, k2, k3, k4, hlen.trans k5, RVs.mapO (fun v v' x => ih v v' x) _ h1 k6, fun hne => ?_⟩
        obtain ⟨blk, off, c, e, fz, j1, j2, j3⟩ := k7 fun h0 => by subst h0; simp at hlen; exact hne hlen
        exact ⟨blk, off, c, e, fz, j1, hI _ _ j2, j3⟩
      · cases h
      · -- func
        rename_i fn fi ca hny
        split at h
        · rename_i fi' ca' h1 h2
          cases h
          cases fn with
          | func f =>
            obtain ⟨xs, ys, rfl, k1, k2⟩ := hx
            exact ⟨xs, ys, rfl, RVs.mapO (fun v v' x => ih v v' x) _ h1 k1, RVs.mapO (fun v v' x => ih v v' x) _ h2 k2⟩
          | yield l => exact (hny _ rfl).elim
          | method => exact hx.elim
          | methodOf => exact hx.elim
          | via => exact hx.elim
        · cases h
      · -- iface
        simp only [Option.map_eq_some_iff] at h
        obtain ⟨v2, h1, rfl⟩ := h
        obtain ⟨y, rfl, k1⟩ := hx
        exact ⟨y, rfl, ih _ _ _ h1 k1⟩
      · simp only [Option.map_eq_some_iff] at h
        obtain ⟨cs', h1, rfl⟩ := h
        obtain ⟨xs, rfl, k1⟩ := hx
        exact ⟨xs, rfl, RVs.mapO (fun v v' x => ih v v' x) _ h1 k1⟩
      · simp only [Option.map_eq_some_iff] at h
        obtain ⟨cs', h1, rfl⟩ := h
        obtain ⟨xs, rfl, k1⟩ := hx
        exact ⟨xs, rfl, RVs.mapO (fun v v' x => ih v v' x) _ h1 k1⟩
      · cases h
        exact RV.mono hI _ (.refl _) hx
      · cases h


/-- The blocks that nobody writes while the top level waits. -/
def snapI (g : G) (n : Nat) (w : World) : IMap := fun b => match g.O b with
  | some (l, _) => if l = n then w.heap[b]? else g.I b
  | none => g.I b
theorem Rel.snap {P : Program} {g : G} {H : Heap} {S : Stack} {w : World} (hr : Rel P g (H :: S) w) :
    Rel P { g with Ms := [], O := fun _ => none, I := snapI g S.length w } [] w ∧ ∀ {v v' : AV} {x : Value}, RV g.I v g.Ms x → AS.leave H v = some v' → hfree v' = true → RV (snapI g S.length w) v' [] x := by
  have hII : ∀ b o, g.I b = some o → snapI g S.length w b = some o := fun b o hb => by
    simp only [snapI, (hr.im b o hb).2.1]; exact hb
  constructor
  · refine ⟨trivial, fun b o hb => ?_, fun _ _ h => (by cases h), hr.bm, fun _ _ _ h => (by cases h)⟩
    show w.heap[b]? = some o ∧ none = none ∧ ¬ g.B b
    have hb' : snapI g S.length w b = some o := hb
    simp only [snapI] at hb'
    cases hO : g.O b with
    | none => rw [hO] at hb'; exact ⟨(hr.im b o hb').1, rfl, (hr.im b o hb').2.2⟩
    | some y =>
      obtain ⟨l, id⟩ := y
      rw [hO] at hb'
      by_cases hl : l = S.length
      · simp only [if_pos hl] at hb'; exact ⟨hb', rfl, (hr.ow b _ hO).2⟩
      · simp only [if_neg hl] at hb'
        have := (hr.im b o hb').2.1
        rw [hO] at this
        cases this
  · intro v v' x hv hlv hf
    obtain ⟨N, Ns, hN⟩ := hr.Ms_cons
    unfold AS.leave at hlv
    split at hlv
    · rename_i r' hfr
      rw [hN] at hv
      have := frz_RV (I' := snapI g S.length w) (Ns := Ns) (H := H) hII (fun id cs hid => ?_) 1000 v r' x hfr hv
      · simp only [Option.map_eq_some_iff] at hlv
        obtain ⟨u, hlv, rfl⟩ := hlv
        exact RV.free _ hf (RV.fg u (RV.down hlv this))
      · obtain ⟨blk, tot, c, e, j1, j2, j3, j4, j5, j6, _⟩ := hr.cells hN hid
        refine ⟨blk, tot, c, e, j1, ?_, j4, j5, hN ▸ j6⟩
        simp only [snapI, j2, if_true]; exact j3
    · cases hlv
mutual
theorem RV.scal {I I' : IMap} : ∀ (v : AV) {Ms Ms' : List MMap} {x : Value}, AS.scal v = true → RV I v Ms x → RV I' v Ms' x
  | .bool _, _, _, _, _, h => h
  | .int _ _, _, _, _, _, h => h
  | .str _, _, _, _, _, h => h
  | .nilptr, _, _, _, _, h => h
  | .nilmap, _, _, _, _, h => h
  | .nilFunc, _, _, _, _, h => h
  | .nilIface, _, _, _, _, h => h
  | .imm nil es len cap cs, Ms, Ms', x, hs, h => by
    simp only [AS.scal, List.isEmpty_iff] at hs
    subst hs
    obtain ⟨a, rcap, xs, f, h1, h2, h3, h4, h5, h6, h7⟩ := h
    have hx : xs = [] := h6
    subst hx
    exact ⟨a, rcap, [], f, h1, h2, h3, h4, h5, rfl, fun h => (h rfl).elim⟩
  | .agg cs, _, _, x, hs, h => by
    obtain ⟨xs, rfl, h1⟩ := h
    exact ⟨xs, rfl, RVs.scal cs (by simpa [AS.scal] using hs) h1⟩
  | .tuple cs, _, _, x, hs, h => by
    obtain ⟨xs, rfl, h1⟩ := h
    exact ⟨xs, rfl, RVs.scal cs (by simpa [AS.scal] using hs) h1⟩
  | .undef, _, _, _, hs, _ => by simp [AS.scal] at hs
  | .ptr _ _ _, _, _, _, hs, _ => by simp [AS.scal] at hs
  | .iptr _ _, _, _, _, hs, _ => by simp [AS.scal] at hs
  | .ref _ _ _ _ _ _ _, _, _, _, hs, _ => by simp [AS.scal] at hs
  | .map _, _, _, _, hs, _ => by simp [AS.scal] at hs
  | .func _ _ _, _, _, _, hs, _ => by simp [AS.scal] at hs
  | .iface _ _, _, _, _, hs, _ => by simp [AS.scal] at hs
  | .ext _, _, _, _, hs, _ => by simp [AS.scal] at hs
theorem RVs.scal {I I' : IMap} : ∀ (vs : List AV) {Ms Ms' : List MMap} {one : Bool} {xs : List Value}, AS.scals vs = true → RVs I vs Ms one xs → RVs I' vs Ms' one xs
  | [], _, _, _, _, _, h => h
  | v :: r, _, _, _, _, hs, h => by
    simp only [AS.scals, Bool.and_eq_true] at hs
    obtain ⟨x, xs', rfl, h1, h2, h3⟩ := h
    exact ⟨x, xs', rfl, RV.scal v hs.1 h1, h2, RVs.scal r hs.2 h3⟩
end
theorem RV.scal_func {I I' : IMap} {Ms : List MMap} {f : Nat} {x : Value} (h : RV I (.func (.func f) [] []) Ms x) : RV I' (.func (.func f) [] []) [] x := by
  obtain ⟨xs, ys, rfl, h1, h2⟩ := h
  exact ⟨xs, ys, rfl, h1, h2⟩
end Go.AS
