/-
  Operation by operation (12): append. By an AI agent.
-/
import Derived.Test.YtefnpnokbanbkaaAs14
set_option linter.all false
namespace Go.AS
open Go
section
variable {P : Program} {an : Ann} {fn : Nat} {g : G} {H H' : Heap} {S : Stack} {w : World} {n : Nat} {e : Env} {a : Act} {iop : IOp} {v : AV} {o : Oper} {M : MMap} {Ms : List MMap}

theorem Rel.drew {g : G} {S : Stack} {w : World} (h : Rel P g S w) : Rel P g S w.drew := h.drawn _
theorem Le.drew (lvl : Nat) (g : G) (w : World) : Le lvl g g w w.drew := Le.drawn lvl g w _

theorem size_zeros (z : Array Value) (k : Nat) : (Builtin.zeroCells z k).size = k * z.size := by simp [Builtin.zeroCells]

/-- A new row that begins with related cells. -/
theorem Rel.growNew (hg : g.Ms = M :: Ms) (h : Rel P g (H :: S) w) {cs : List AV} {xs : List Value} {es need c : Nat} {z : Array Value} (t : TypeId) (hr : RVs g.I cs g.Ms true xs) (hl : cs.length = need * es) (hz : z.size = es) (hc : need ≤ c) :
    ∃ g', Rel P g' ((H ++ [.cells cs]) :: S) (w.drew.alloc (.cells (xs.toArray ++ Builtin.zeroCells z (c - need)) t)) ∧ Le (S.length + 1) g g' w (w.drew.alloc (.cells (xs.toArray ++ Builtin.zeroCells z (c - need)) t)) ∧
      RV g'.I (.ref H.length (need * es) 0 es need need false) g'.Ms (.slice (some ⟨w.heap.size, 0, none⟩) need c) := by
  have hxl := hr.length
  have hsz : (xs.toArray ++ Builtin.zeroCells z (c - need)).size = c * es := by
    simp only [Array.size_append, List.size_toArray, size_zeros, hz, hxl, hl, ← Nat.add_mul]
    congr 1; omega
  have hle : need * es ≤ c * es := Nat.mul_le_mul_right _ hc
  obtain ⟨g', k1, k2, M', k3, k4⟩ := Rel.allocCells hg h.drew (cs := cs) (c := xs.toArray ++ Builtin.zeroCells z (c - need)) t (by
      have : (xs.toArray ++ Builtin.zeroCells z (c - need)).toList.take cs.length = xs := by simp [← hxl]
      rw [this]; exact hr) (tot := c * es) (by omega) (by omega)
  refine ⟨g', k1, (Le.drew _ g w).trans k2, M', Ms, _, _, _, c, k3, by rw [← hl]; exact k4, rfl, Nat.le_refl _, hc, by omega, (fun hx => by cases hx), fun _ => rfl⟩

theorem set_same {α : Type} {l : List α} {i : Nat} {x : α} (h : l[i]? = some x) : l.set i x = l := by
  apply List.ext_getElem?
  intro j
  rw [List.getElem?_set]
  split
  · rename_i hij
    subst hij
    split
    · exact h.symm
    · rename_i hlt; rw [List.getElem?_eq_none (by omega)]
  · rfl

theorem nbeq_comm (a b : Nat) : Nat.beq a b = Nat.beq b a := by
  by_cases h : a = b
  · subst h; rfl
  · rw [nbeq_false h, nbeq_false (Ne.symm h)]

theorem splice_nil (cs : List AV) (off : Nat) : splice cs off [] = cs := by simp [splice]

theorem append_grow {t u ty el : TypeId} {i : TypeInfo} {z : Value} {id len cap m blk tot rcap : Nat} {cs' new : List AV} {ys : List Value} {ad : Addr} {y : Value} {sem : Sem Next}
    (hg : g.Ms = M :: Ms) (h : Rel P g (H :: S) w) (hid : H[id]? = some (.cells cs')) (hys : RVs g.I new g.Ms true ys) (hyl : new.length = m * i.size) (hlen : (Builtin.lenOf y).run P w = .ok m w)
    (hfm : ∀ w' : World, w'.heap = w.heap → (Builtin.firstCells i.size m y).run P w' = .ok ys.toArray w') (hp : RV g.I (.ref id cs'.length 0 i.size len cap false) g.Ms (.slice (some ad) len rcap))
    {qv : Value} (r1 : qv = .slice (some ad) len rcap) (f2 : M id cs'.length = some (blk, tot)) (g1 : len ≤ cap) (g3 : 0 + rcap * i.size ≤ tot) (g5 : rcap ≠ 0 → ad = ⟨blk, 0, none⟩)
    (hgt : cap < len + m) (c2 : cap * i.size = cs'.length) (c3 : 0 < i.size) (hroom : room i.bytes (len + m) = true)
    (hu1 : P.underlying t = some (.slice el)) (hu2 : (∃ q, P.underlying u = some (.slice q)) ∨ P.underlying u = some .string) (hi : P.info? el = some i) (hz0 : i.zero = some z) (hzs : z.cells.size = i.size)
    (hbs : ∀ r, (Builtin.append_ #[t, u] ty #[qv, y]).run P w = r → sem.run P w = r.andThen fun v w' => .ok (.value v) w') :
    Does P g (H :: S) w sem (.ref id ((len + m) * i.size) 0 i.size (len + m) (len + m) false) (H.set id (.cells (cs'.take (len * i.size) ++ new)) :: S) := by
  have hbound := room_spec hroom hgt
  have hyl2 := hys.length
  have rs := h.rs
  rw [hg] at rs
  obtain ⟨blk', tot', c, ce, k1, k2, k3, k4, k5, k7, k6⟩ := rs.1 id _ hid
  rw [f2] at k1
  cases k1
  have hidlt := (List.getElem?_eq_some_iff.1 hid).1
  have hlm : len * i.size + m * i.size = (len + m) * i.size := by rw [Nat.add_mul]
  have hlc : len * i.size ≤ cs'.length := by rw [← c2]; exact Nat.mul_le_mul_right _ g1
  have hbig : cs'.length < (len + m) * i.size := by rw [← c2]; exact Nat.mul_lt_mul_of_pos_right hgt c3
  have hncl : (cs'.take (len * i.size) ++ new).length = (len + m) * i.size := by simp only [List.length_append, List.length_take, hyl]; omega
  have hMn : M id ((len + m) * i.size) = none := by
    cases hx : M id ((len + m) * i.size) with
    | none => rfl
    | some p => have := k7 _ _ hx; omega
  have hget : ∀ j v, (cs'.take (len * i.size) ++ new)[j]? = some v → (j < len * i.size ∧ cs'[j]? = some v) ∨ (len * i.size ≤ j ∧ j < (len + m) * i.size ∧ new[j - len * i.size]? = some v) := fun j v hj => by
    rw [List.getElem?_append, List.length_take, Nat.min_eq_left hlc] at hj
    by_cases hlt : j < len * i.size
    · rw [if_pos hlt, List.getElem?_take, if_pos hlt] at hj
      exact .inl ⟨hlt, hj⟩
    · rw [if_neg hlt] at hj
      have := (List.getElem?_eq_some_iff.1 hj).1
      exact .inr ⟨by omega, by omega, hj⟩
  by_cases hin : len + m ≤ rcap
  · -- in place
    have hr0 : rcap ≠ 0 := by omega
    have := g5 hr0
    subst this
    have hrt : (len + m) * i.size ≤ rcap * i.size := Nat.mul_le_mul_right _ hin
    obtain ⟨w', c', s1, s2, s3, s4, s5⟩ := run_storeCells (P := P) (blk := blk) (off := len * i.size) (e := ce) ys 0 w c k3 (fun v hv => by
      obtain ⟨j, hj⟩ := List.getElem?_of_mem hv
      have hj2 : j < new.length := by have := (List.getElem?_eq_some_iff.1 hj).1; omega
      obtain ⟨x, e1, _, e3⟩ := hys.get (List.getElem?_eq_getElem hj2)
      rw [hj] at e1
      cases e1
      exact e3 rfl) (by omega)
    have hrun := append_room (P := P) (w := w) (ty := ty) hu1 hu2 hi (base := some ⟨blk, 0, none⟩) (len := len) (cap := rcap) hlen (hfm w rfl) hin (w' := w') (by simp only [Addr.add_none, Nat.zero_add]; exact s1)
    have := Rel.change (w' := w') hg h id (.cells (cs'.take (len * i.size) ++ new)) (H.set id (.cells (cs'.take (len * i.size) ++ new)))
      (fun j l => if j = id ∧ l = (len + m) * i.size then some (blk, tot) else M j l) g.O s2.os s2.tape s2.output (by rw [s2.size]; exact Nat.le_refl _)
      (fun b hb hne => s2.other b (by intro e; subst e; exact hne k2))
      (fun j hj => by rw [List.getElem?_set, if_neg (fun e => hj e.symm)]) (by rw [List.getElem?_set]; simp [hidlt]) (by simp)
      (fun j l hj => by simp [hj]) (fun l p hp => by
        by_cases hl : l = (len + m) * i.size
        · subst hl; rw [hMn] at hp; cases hp
        · simp [hl, hp])
      (fun l p hp => by
        by_cases hl : l = (len + m) * i.size
        · simp [hl] at hp; subst hp; exact k2
        · simp [hl] at hp; exact (rs.2.1 _ _ _ hp).2)
      (fun _ _ => rfl) (fun b hb x hx => by rw [h.O_new hb] at hx; cases hx)
      (by
        refine ⟨blk, tot, c', ce, by rw [hncl]; simp, k2, s3, by rw [hncl]; omega, by rw [s4]; exact k5, fun l p hp => ?_, fun j v hv => ?_⟩
        · rw [hncl]
          by_cases hl : l = (len + m) * i.size
          · omega
          · simp [hl] at hp; have := k7 _ _ hp; omega
        · have hle : MsLe (M :: Ms) ((fun j l => if j = id ∧ l = (len + m) * i.size then some (blk, tot) else M j l) :: Ms) := ⟨fun j l p hp => by
            by_cases hl : j = id ∧ l = (len + m) * i.size
            · rw [hl.1, hl.2, hMn] at hp; cases hp
            · simp only [hl, if_false]; exact hp, .refl _⟩
          have s5' := s5 j
          simp only [Nat.add_zero, hyl2, hyl] at s5'
          rcases hget j v hv with ⟨q1, q2⟩ | ⟨q1, q2, q3⟩
          · rw [if_neg (by omega)] at s5'
            obtain ⟨x, e1, e2, e3⟩ := k6 j v q2
            exact ⟨x, s5'.trans e1, RV.mono (fun _ _ h => h) v hle e2, e3⟩
          · rw [if_pos (by omega)] at s5'
            obtain ⟨x, e1, e2, e3⟩ := hys.get q3
            rw [hg] at e2
            exact ⟨x, s5'.trans e1, RV.mono (fun _ _ h => h) v hle e2, e3 rfl⟩)
    refine ⟨_, w', .slice (some ⟨blk, 0, none⟩) (len + m) rcap, .inl (hbs (.ok (.slice (some ⟨blk, 0, none⟩) (len + m) rcap) w') (by rw [r1]; exact hrun)), this.1, this.2, _, Ms, blk, tot, _, rcap, rfl, by simp, rfl, Nat.le_refl _, hin, by omega, (fun hx => by cases hx), fun _ => rfl⟩
  · -- a new row
    have hrlt : rcap < len + m := by omega
    obtain ⟨q1, q2⟩ := room_spec hroom hrlt
    obtain ⟨olds, o1, o2, _, o4⟩ := holds_cells (m := len) (cs := cs'.take (len * i.size)) (es := i.size) h hp rfl (by
      have hb3 : Nat.ble (0 + len * i.size) cs'.length = true := Nat.ble_eq_true_of_le (by omega)
      simp only [srcCells, hid, nbeq_self, Bool.true_and, hb3, cond_true, List.drop_zero])
    have ol := o1.length
    have hold : (Builtin.firstCells i.size len (.slice (some ad) len rcap)).run P w.drew = .ok olds.toArray w.drew := by
      have := o4 len (Nat.le_refl _) w.drew rfl
      rwa [take_all _ (by omega)] at this
    obtain ⟨nc, hc1, hc2⟩ := append_new (P := P) (w := w) (ty := ty) hu1 hu2 hi hz0 hold hlen (hfm w.drew rfl) hrlt q1 q2
    have hsz : (olds.toArray ++ ys.toArray ++ Builtin.zeroCells z.cells (nc - (len + m))).size = nc * i.size := by
      simp only [Array.size_append, List.size_toArray, size_zeros, hzs, ol, o2, hyl2, hyl, hlm, ← Nat.add_mul]
      congr 1; omega
    have hnle : (len + m) * i.size ≤ nc * i.size := Nat.mul_le_mul_right _ hc1
    have := Rel.change (w' := w.drew.alloc (.cells (olds.toArray ++ ys.toArray ++ Builtin.zeroCells z.cells (nc - (len + m))) el)) hg h id (.cells (cs'.take (len * i.size) ++ new)) (H.set id (.cells (cs'.take (len * i.size) ++ new)))
      (fun j l => if j = id ∧ l = (len + m) * i.size then some (w.heap.size, nc * i.size) else M j l) (fun b => if b = w.heap.size then some (S.length, id) else g.O b) rfl rfl rfl (by simp)
      (fun b hb _ => heap_alloc_old _ _ _ hb)
      (fun j hj => by rw [List.getElem?_set, if_neg (fun e => hj e.symm)]) (by rw [List.getElem?_set]; simp [hidlt]) (by simp)
      (fun j l hj => by simp [hj]) (fun l p hp => by
        by_cases hl : l = (len + m) * i.size
        · subst hl; rw [hMn] at hp; cases hp
        · simp [hl, hp])
      (fun l p hp => by
        by_cases hl : l = (len + m) * i.size
        · simp [hl] at hp; subst hp; simp
        · simp [hl] at hp
          have := (rs.2.1 _ _ _ hp).2
          have hlt := (h.ow _ _ this).1
          show (if _ then _ else _) = _
          rw [if_neg (by omega)]; exact this)
      (fun b hb => by rw [if_neg (by omega)]) (fun b hb x hx => by
        by_cases he : b = w.heap.size
        · subst he; simp at hx; exact ⟨hx.symm, by simp⟩
        · rw [if_neg he, h.O_new hb] at hx; cases hx)
      (by
        refine ⟨w.heap.size, nc * i.size, _, el, by rw [hncl]; simp, by simp, heap_alloc_new w.drew _, by rw [hncl]; exact hnle, by omega, fun l p hp => ?_, fun j v hv => ?_⟩
        · rw [hncl]
          by_cases hl : l = (len + m) * i.size
          · omega
          · simp [hl] at hp; have := k7 _ _ hp; omega
        · have hle : MsLe (M :: Ms) ((fun j l => if j = id ∧ l = (len + m) * i.size then some (w.heap.size, nc * i.size) else M j l) :: Ms) := ⟨fun j l p hp => by
            by_cases hl : j = id ∧ l = (len + m) * i.size
            · rw [hl.1, hl.2, hMn] at hp; cases hp
            · simp only [hl, if_false]; exact hp, .refl _⟩
          obtain ⟨x, e1, e2, e3⟩ := (o1.append hys).get hv
          rw [hg] at e2
          have hjl := (List.getElem?_eq_some_iff.1 e1).1
          refine ⟨x, ?_, RV.mono (fun _ _ h => h) v hle e2, e3 rfl⟩
          rw [Array.getElem?_append_left (by simpa using hjl)]
          simpa using e1)
    refine ⟨_, _, .slice (some ⟨w.heap.size, 0, none⟩) (len + m) nc, .inl (hbs (.ok _ _) (by rw [r1]; exact hc2)), this.1, this.2, _, Ms, w.heap.size, nc * i.size, _, nc, rfl, by simp, rfl, Nat.le_refl _, hc1, by omega, (fun hx => by cases hx), fun _ => rfl⟩

theorem bs_append {t u : TypeId} {ts : List TypeId} {s x : Operand} : BGoal P g H S w n e a .append (t :: u :: ts) [s, x] := by
  intro iop v H' he h hc hv cs ty
  have hu : ∃ el i s' x' z, P.underlying t = some (.slice el) ∧ ((∃ q, P.underlying u = some (.slice q)) ∨ P.underlying u = some .string) ∧ P.info? el = some i ∧ cO s = some s' ∧ cO x = some x' ∧ zeroCs P el = some z ∧ z.length = i.size ∧ iop = .append i.size i.bytes s' x' := by
    simp only [cBuiltin] at hc
    split at hc
    · rename_i el q hu1 hu2
      split at hc
      · rename_i i z s' x' hi hz hs hx
        cases hb : Nat.beq z.length i.size with
        | false => rw [hb] at hc; cases hc
        | true => rw [hb] at hc; cases hc; exact ⟨el, i, s', x', z, hu1, .inl ⟨q, hu2⟩, hi, hs, hx, hz, Nat.eq_of_beq_eq_true hb, rfl⟩
      · cases hc
    · rename_i el hu1 hu2
      split at hc
      · rename_i i z s' x' hi hz hs hx
        cases hb : Nat.beq z.length i.size with
        | false => rw [hb] at hc; cases hc
        | true => rw [hb] at hc; cases hc; exact ⟨el, i, s', x', z, hu1, .inr hu2, hi, hs, hx, hz, Nat.eq_of_beq_eq_true hb, rfl⟩
      · cases hc
    · cases hc
  obtain ⟨el, i, s', x', za, hu1, hu2, hi, hs, hx, hza, hzl, rfl⟩ := hu
  obtain ⟨i', z, hi', hz0, hzr⟩ := zeroCs_RV hza g.I g.Ms
  rw [hi] at hi'
  cases hi'
  have hzs : z.cells.size = i.size := by rw [← Array.length_toList, hzr.length, hzl]
  have hp := cO_RV hs he
  have hq := cO_RV hx he
  have hbs : ∀ r, (Builtin.append_ #[t, u] ty #[a.eval s, a.eval x]).run P w = r → (builtin .append (t :: u :: ts).toArray ty cs ([s, x].map a.eval).toArray).run P w = r.andThen fun v w' => .ok (.value v) w' := fun r hr => by
    rw [← hr]
    simp only [builtin, Sem.run_bind]
    congr 1
  simp only [evOp, appendA] at hv
  split at hv
  · rename_i m new hm hnew
    obtain ⟨ys, hys, hyl, hlen, hfirst⟩ := holds_cells h hq hm hnew
    have hyl2 := hys.length
    have hfm : ∀ w', w'.heap = w.heap → (Builtin.firstCells i.size m (a.eval x)).run P w' = .ok ys.toArray w' := fun w' hw' => by
      have := hfirst m (Nat.le_refl _) w' hw'
      rwa [take_all _ (by omega)] at this
    obtain ⟨M, Ms, hg⟩ := h.Ms_cons
    split at hv
    · -- a row that nobody writes
      rename_i nl es' len cap cs' hse
      rw [hse] at hp
      cases hb : (Nat.beq i.size es' || Nat.beq len 0) with
      | false => rw [hb] at hv; cases hv
      | true =>
        rw [hb] at hv
        simp only [Bool.not_true, cond_false] at hv
        have hp' := hp
        obtain ⟨ad, rcap, xs, r1, g1, g2, g3, g4, g5, g6, g7⟩ := hp'
        cases hm0 : Nat.beq m 0 with
        | true =>
          rw [hm0] at hv
          cases hv
          have hm0 := Nat.eq_of_beq_eq_true hm0
          subst hm0
          have hy0 : ys = [] := by
            have : ys.length = 0 := by omega
            exact List.length_eq_zero_iff.1 this
          subst hy0
          have hst : (match ad with | some ad => storeCells (ad.add (len * i.size)) [] | none => pure ()).run P w = .ok () w := by cases ad <;> rfl
          have := append_room (P := P) (w := w) (ty := ty) hu1 hu2 hi (base := ad) (len := len) (cap := rcap) hlen (hfm w rfl) (by omega) hst
          rw [Nat.add_zero] at this
          rw [r1] at hp
          exact .pure h (x := .slice ad len rcap) (hbs (.ok _ _) (by rw [r1]; exact this)) (by rw [hse]; exact hp)
        | false =>
          rw [hm0] at hv
          simp only [cond_false] at hv
          split at hv
          · cases hv
          · rename_i c
            cases hb2 : (Nat.ble (len + m) c || !(room i.bytes (len + m))) with
            | true => rw [hb2] at hv; cases hv
            | false =>
              rw [hb2] at hv
              simp only [cond_false, Option.some.injEq, Prod.mk.injEq] at hv
              obtain ⟨rfl, rfl⟩ := hv
              simp only [Bool.or_eq_false_iff, Bool.not_eq_false'] at hb2
              have hcr := g4 c rfl
              subst hcr
              have hlt : rcap < len + m := by
                have : ¬ (len + m ≤ rcap) := fun hle => by
                  have := Nat.ble_eq_true_of_le hle
                  rw [this] at hb2
                  exact absurd hb2.1 (by simp)
                omega
              obtain ⟨q1, q2⟩ := room_spec hb2.2 hlt
              obtain ⟨olds, o1, o2, _, o4⟩ := holds_cells (m := len) (cs := cs') (es := i.size) h hp rfl (by
                have hb' : (Nat.beq es' i.size || Nat.beq len 0) = true := by rw [nbeq_comm]; exact hb
                simp only [srcCells, hb', cond_true])
              have ol := o1.length
              have hold : (Builtin.firstCells i.size len (.slice ad len rcap)).run P w.drew = .ok olds.toArray w.drew := by
                have := o4 len (Nat.le_refl _) w.drew rfl
                rwa [take_all _ (by omega), r1] at this
              obtain ⟨c, hc1, hc2⟩ := append_new (P := P) (w := w) (ty := ty) hu1 hu2 hi hz0 hold hlen (hfm w.drew rfl) hlt q1 q2
              obtain ⟨g', k1, k2, k3⟩ := Rel.growNew hg h (xs := olds ++ ys) (es := i.size) (need := len + m) (z := z.cells) el (o1.append hys) (by rw [List.length_append, o2, hyl, Nat.add_mul]) hzs hc1
              refine ⟨g', _, _, .inl ?_, k1, k2, k3⟩
              rw [hbs (.ok _ _) (by rw [r1]; exact hc2)]
              simp
    · -- an object
      rename_i id lim off es' len cap ex hse
      rw [hse] at hp
      split at hv
      · rename_i cs' hid
        cases hb : (!(Nat.beq cs'.length lim) || !(Nat.beq i.size es')) with
        | true => rw [hb] at hv; cases hv
        | false =>
          rw [hb] at hv
          simp only [cond_false] at hv
          simp only [Bool.or_eq_false_iff, Bool.not_eq_false'] at hb
          have b1 := Nat.eq_of_beq_eq_true hb.1
          have b2 := Nat.eq_of_beq_eq_true hb.2
          subst b1 b2
          have hp' := hp
          obtain ⟨M', Ms', blk, tot, ad, rcap, f1, f2, r1, g1, g2, g3, g4, g5⟩ := hp'
          rw [hg] at f1
          cases f1
          cases hfit : Nat.ble (len + m) cap with
          | true =>
            rw [hfit] at hv
            simp only [cond_true] at hv
            have hfit := Nat.le_of_ble_eq_true hfit
            cases hb3 : Nat.ble (off + (len + m) * i.size) cs'.length with
            | false => rw [hb3] at hv; cases hv
            | true =>
              rw [hb3] at hv
              simp only [cond_true, Option.some.injEq, Prod.mk.injEq] at hv
              obtain ⟨rfl, rfl⟩ := hv
              have hb3 := Nat.le_of_ble_eq_true hb3
              have hlm : len * i.size + m * i.size = (len + m) * i.size := by rw [Nat.add_mul]
              obtain ⟨w', s1, s2, s3⟩ := Rel.store hg h hid f2 (off := off + len * i.size) hys (by omega)
              have hst : (storeCells (ad.add (len * i.size)) ys).run P w = .ok () w' := by
                by_cases hr0 : rcap = 0
                · have : m = 0 := by omega
                  subst this
                  have hy0 : ys = [] := List.length_eq_zero_iff.1 (by omega)
                  subst hy0
                  simp only [storeCells, Sem.run_pure] at s1 ⊢
                  exact s1
                · have := g5 hr0
                  subst this
                  rw [Addr.add_none]
                  exact s1
              have hrun := append_room (P := P) (w := w) (ty := ty) hu1 hu2 hi (base := some ad) (len := len) (cap := rcap) hlen (hfm w rfl) (by omega) hst
              refine ⟨g, w', _, .inl ?_, s2, s3, M, Ms, blk, tot, ad, rcap, hg, f2, rfl, hfit, g2, g3, g4, g5⟩
              exact hbs (.ok _ _) (by rw [r1]; exact hrun)
          | false =>
            rw [hfit] at hv
            simp only [cond_false] at hv
            have hgt : cap < len + m := by
              have : ¬ (len + m ≤ cap) := fun hle => by
                have := Nat.ble_eq_true_of_le hle
                rw [this] at hfit
                exact absurd hfit (by simp)
              omega
            cases hroom : room i.bytes (len + m) with
            | false => rw [hroom] at hv; cases hv
            | true =>
              rw [hroom] at hv
              simp only [Bool.not_true, cond_false] at hv
              cases hex : ex with
              | true =>
                rw [hex] at hv
                simp only [cond_true] at hv
                cases hb3 : Nat.ble (off + len * i.size) cs'.length with
                | false => rw [hb3] at hv; cases hv
                | true =>
                  rw [hb3] at hv
                  simp only [cond_true, Option.some.injEq, Prod.mk.injEq] at hv
                  obtain ⟨rfl, rfl⟩ := hv
                  have hrc := g4 hex
                  subst hrc
                  obtain ⟨q1, q2⟩ := room_spec hroom hgt
                  obtain ⟨olds, o1, o2, _, o4⟩ := holds_cells (m := len) (cs := (cs'.drop off).take (len * i.size)) (es := i.size) h hp rfl (by simp only [srcCells, hid, nbeq_self, Bool.true_and, hb3, cond_true])
                  have ol := o1.length
                  have hold : (Builtin.firstCells i.size len (.slice (some ad) len rcap)).run P w.drew = .ok olds.toArray w.drew := by
                    have := o4 len (Nat.le_refl _) w.drew rfl
                    rwa [take_all _ (by omega), r1] at this
                  obtain ⟨c, hc1, hc2⟩ := append_new (P := P) (w := w) (ty := ty) hu1 hu2 hi hz0 hold hlen (hfm w.drew rfl) hgt q1 q2
                  obtain ⟨g', k1, k2, k3⟩ := Rel.growNew hg h (xs := olds ++ ys) (es := i.size) (need := len + m) (z := z.cells) el (o1.append hys) (by rw [List.length_append, o2, hyl, Nat.add_mul]) hzs hc1
                  refine ⟨g', _, _, .inl ?_, k1, k2, k3⟩
                  rw [hbs (.ok _ _) (by rw [r1]; exact hc2)]
                  simp
              | false =>
                rw [hex] at hv
                simp only [cond_false] at hv
                cases hb3 : (Nat.beq off 0 && Nat.beq (cap * i.size) cs'.length && Nat.blt 0 i.size) with
                | false => rw [hb3] at hv; cases hv
                | true =>
                  rw [hb3] at hv
                  simp only [cond_true, Option.some.injEq, Prod.mk.injEq] at hv
                  obtain ⟨rfl, rfl⟩ := hv
                  simp only [Bool.and_eq_true] at hb3
                  have c1 := Nat.eq_of_beq_eq_true hb3.1.1
                  have c2 := Nat.eq_of_beq_eq_true hb3.1.2
                  have c3 : 0 < i.size := by simpa using hb3.2
                  subst c1
                  exact append_grow hg h hid hys hyl hlen hfm (by rw [← hex, ← r1]; exact hp) r1 f2 g1 g3 g5 hgt c2 c3 hroom hu1 hu2 hi hz0 hzs hbs
      · cases hv
    · cases hv
  · cases hv
end
end Go.AS
