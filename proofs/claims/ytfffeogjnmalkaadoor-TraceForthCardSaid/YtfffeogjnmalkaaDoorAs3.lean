import Derived.Laws.AppendOwn
import Derived.Laws.Cells
import Derived.Test.YtfffeogjnmalkaaDoorAs2
set_option linter.all false
/-
  What becomes of the relation when one object changes, or a new one is made. By an AI agent.
-/
namespace Go.AS
open Go

theorem LoopR.le {P : Program} {I I' : IMap} {Ms Ms' : List MMap} {L : ILoop} {r : Loop} (hI : ∀ b o, I b = some o → I' b = some o) (hM : MsLe Ms Ms') (h : LoopR P I Ms L r) : LoopR P I' Ms' L r :=
  ⟨h.state, h.pending, by obtain ⟨n, h1, h2⟩ := h.env; exact ⟨n, ⟨h1.1, fun i => RV.mono hI _ hM (h1.2 i)⟩, h2⟩, h.params⟩

theorem ObjR.frame {P : Program} {I I' : IMap} {O O' : Nat → Option (Nat × Nat)} {M M' : MMap} {Ms Ms' : List MMap} {hp hp' : Array Obj} {lvl id : Nat} {o : AObj}
    (h : ObjR P I O M Ms hp lvl id o) (hI : ∀ b o, I b = some o → I' b = some o) (hM : MsLe Ms Ms') (hM1 : ∀ lim, M' id lim = M id lim)
    (hb : ∀ b, O b = some (lvl, id) → O' b = some (lvl, id) ∧ hp'[b]? = hp[b]?) : ObjR P I' O' M' Ms' hp' lvl id o := by
  cases o with
  | dead => trivial
  | slot => exact fun lim => (hM1 lim).trans (h lim)
  | cells cs =>
    obtain ⟨blk, tot, c, e, h1, h2, h3, h4, h5, h7, h6⟩ := h
    refine ⟨blk, tot, c, e, (hM1 _).trans h1, (hb blk h2).1, (hb blk h2).2.trans h3, h4, h5, fun lim p hp => h7 lim p ((hM1 lim).symm.trans hp), fun i v hv => ?_⟩
    obtain ⟨x, k1, k2, k3⟩ := h6 i v hv
    exact ⟨x, k1, RV.mono hI v hM k2, k3⟩
  | map es clock =>
    obtain ⟨blk, tot, es', h1, h2, h3, h4, h5⟩ := h
    refine ⟨blk, tot, es', (hM1 _).trans h1, (hb blk h2).1, (hb blk h2).2.trans h3, h4, fun i k v b hv => ?_⟩
    obtain ⟨y, k1, k2, k4, k5⟩ := h5 i k v b hv
    exact ⟨y, k1, RV.mono hI k hM k2, RV.mono hI v hM k4, k5⟩
  | loop L =>
    obtain ⟨blk, tot, r, h1, h2, h3, h4⟩ := h
    exact ⟨blk, tot, r, (hM1 _).trans h1, (hb blk h2).1, (hb blk h2).2.trans h3, h4.le hI hM⟩
  | iter m =>
    obtain ⟨blk, tot, mo, s, l, h1, h2, h3, h4⟩ := h
    refine ⟨blk, tot, mo, s, l, (hM1 _).trans h1, (hb blk h2).1, (hb blk h2).2.trans h3, ?_⟩
    cases m with
    | none => exact h4
    | some j => exact RV.mono hI _ hM h4
  | bld T e bs =>
    obtain ⟨blk, tot, p, v, h1, h2, h3, h4, h5, h6⟩ := h
    refine ⟨blk, tot, p, v, (hM1 _).trans h1, (hb blk h2).1, (hb blk h2).2.trans h3, h4, fun q hq => ⟨(h5 q hq).1, (hb q (h5 q hq).2).1⟩, ?_⟩
    rcases h6 with h6 | ⟨q, cap, cur, fz, rfl, r⟩
    · exact .inl h6
    · refine .inr ⟨q, cap, cur, fz, rfl, (hb q (h5 q rfl).2).2.trans r.1, r.2⟩

theorem RelS.frame {P : Program} {I I' : IMap} {O O' : Nat → Option (Nat × Nat)} {hp hp' : Array Obj} (hI : ∀ b o, I b = some o → I' b = some o) :
    ∀ {S : Stack} {Ms : List MMap}, RelS P I O hp S Ms → (∀ b l id, O b = some (l, id) → l < S.length → O' b = some (l, id) ∧ hp'[b]? = hp[b]?) → RelS P I' O' hp' S Ms
  | [], [], _, _ => trivial
  | _ :: _, [], h, _ => h.elim
  | [], _ :: _, h, _ => h.elim
  | H :: S, M :: Ms, ⟨h1, h2, h3⟩, hb => by
    refine ⟨fun id o ho => (h1 id o ho).frame hI (.refl _) (fun _ => rfl) (fun b hbb => hb b _ _ hbb (by simp)), fun id lim p hp => ⟨(h2 id lim p hp).1, (hb _ _ _ (h2 id lim p hp).2 (by simp)).1⟩,
      RelS.frame hI h3 fun b l id hbl hl => hb b l id hbl (by simp; omega)⟩

theorem RelS.length {P : Program} {I : IMap} {O : Nat → Option (Nat × Nat)} {hp : Array Obj} : ∀ {S : Stack} {Ms : List MMap}, RelS P I O hp S Ms → S.length = Ms.length
  | [], [], _ => rfl
  | _ :: _, [], h => h.elim
  | [], _ :: _, h => h.elim
  | _ :: _, _ :: _, ⟨_, _, h⟩ => by simp [RelS.length h]

/-- One object of the top level changes (its block, and new blocks), or is made. -/
theorem Rel.change {P : Program} {g : G} {H : Heap} {S : Stack} {w w' : World} {M : MMap} {Ms : List MMap} (hg : g.Ms = M :: Ms) (h : Rel P g (H :: S) w)
    (id : Nat) (o : AObj) (H' : Heap) (M' : MMap) (O' : Nat → Option (Nat × Nat))
    (os : w'.os = w.os) (tape : w'.tape = w.tape) (out : w'.output = w.output) (size : w.heap.size ≤ w'.heap.size)
    (keep : ∀ b, b < w.heap.size → g.O b ≠ some (S.length, id) → w'.heap[b]? = w.heap[b]?)
    (hH : ∀ j, j ≠ id → H'[j]? = H[j]?) (hid : H'[id]? = some o) (hlen : H.length ≤ H'.length)
    (hM : ∀ j lim, j ≠ id → M' j lim = M j lim) (hMi : ∀ lim p, M id lim = some p → M' id lim = some p) (hMo : ∀ lim p, M' id lim = some p → O' p.1 = some (S.length, id))
    (hO : ∀ b, b < w.heap.size → O' b = g.O b) (hOn : ∀ b, w.heap.size ≤ b → ∀ x, O' b = some x → x = (S.length, id) ∧ b < w'.heap.size)
    (ho : ObjR P g.I O' M' (M' :: Ms) w'.heap S.length id o) :
    Rel P { g with Ms := M' :: Ms, O := O' } (H' :: S) w' ∧ Le (S.length + 1) g { g with Ms := M' :: Ms, O := O' } w w' := by
  obtain ⟨rs, im, ow, bm, lv⟩ := h
  rw [hg] at rs
  obtain ⟨h1, h2, h3⟩ := rs
  have hidlt : id < H'.length := (List.getElem?_eq_some_iff.1 hid).1
  have hMle : ∀ j lim p, M j lim = some p → M' j lim = some p := fun j lim p hp => by
    by_cases hj : j = id
    · subst hj; exact hMi _ _ hp
    · rw [hM j lim hj]; exact hp
  have hle : MsLe (M :: Ms) (M' :: Ms) := ⟨hMle, .refl _⟩
  have hIB : ∀ b o, g.I b = some o → b < w.heap.size := fun b o hb => (Array.getElem?_eq_some_iff.1 (im b o hb).1).1
  have hBB : ∀ b, g.B b → b < w.heap.size := fun b hb => (Array.getElem?_eq_some_iff.1 (bm b hb)).1
  have hOB : ∀ b, g.B b → g.O b = none := fun b hb => by
    cases hx : g.O b with
    | none => rfl
    | some x => exact absurd hb (ow b x hx).2
  refine ⟨⟨⟨fun j o' ho' => ?_, fun j lim p hp => ?_, ?_⟩, fun b o hb => ?_, fun b x hx => ?_, fun b hb => ?_, fun b l i hb => ?_⟩, ?_⟩
  · by_cases hj : j = id
    · subst hj
      rw [hid] at ho'
      cases ho'
      exact ho
    · rw [hH j hj] at ho'
      refine (h1 j o' ho').frame (fun _ _ h => h) hle (fun lim => hM j lim hj) fun b hb => ?_
      have hlt := (ow b _ hb).1
      exact ⟨(hO b hlt).trans hb, keep b hlt (by rw [hb]; intro e; simp at e; exact hj e)⟩
  · by_cases hj : j = id
    · subst hj
      exact ⟨hidlt, hMo _ _ hp⟩
    · rw [hM j lim hj] at hp
      obtain ⟨k1, k2⟩ := h2 j lim p hp
      exact ⟨Nat.lt_of_lt_of_le k1 hlen, (hO _ (ow _ _ k2).1).trans k2⟩
  · refine RelS.frame (fun _ _ h => h) h3 fun b l j hb hl => ?_
    have hlt := (ow b _ hb).1
    exact ⟨(hO b hlt).trans hb, keep b hlt (by rw [hb]; intro e; simp at e; omega)⟩
  · obtain ⟨k1, k2, k3⟩ := im b o hb
    have hlt := hIB b o hb
    exact ⟨(keep b hlt (by rw [k2]; simp)).trans k1, (hO b hlt).trans k2, k3⟩
  · by_cases hlt : b < w.heap.size
    · have : g.O b = some x := (hO b hlt).symm.trans hx
      exact ⟨by have := (ow b x this).1; omega, (ow b x this).2⟩
    · have := hOn b (by omega) x hx
      exact ⟨this.2, fun hb => hlt (hBB b hb)⟩
  · have hlt := hBB b hb
    exact (keep b hlt (by rw [hOB b hb]; simp)).trans (bm b hb)
  · by_cases hlt : b < w.heap.size
    · exact lv b l i ((hO b hlt).symm.trans hb)
    · have := (hOn b (by omega) _ hb).1
      cases this
      simp
  · refine ⟨os, tape, out, size, by rw [hg]; exact hle, fun _ _ h => h, hO, fun _ _ => rfl, fun _ _ => Iff.rfl, fun b hb hl => keep b hb fun e => ?_⟩
    have := hl _ _ e
    omega

theorem Rel.O_new {P : Program} {g : G} {S : Stack} {w : World} (h : Rel P g S w) {b : Nat} (hb : w.heap.size ≤ b) : g.O b = none := by
  cases hx : g.O b with
  | none => rfl
  | some x => have := (h.ow b x hx).1; omega

/-- A new object, in a new block. -/
theorem Rel.alloc {P : Program} {g : G} {H : Heap} {S : Stack} {w : World} {M : MMap} {Ms : List MMap} (hg : g.Ms = M :: Ms) (h : Rel P g (H :: S) w)
    (o : AObj) (ob : Obj) (lim tot : Nat)
    (ho : ∀ (O' : Nat → Option (Nat × Nat)) (M' : MMap) (hp' : Array Obj), MsLe (M :: Ms) (M' :: Ms) → M' H.length lim = some (w.heap.size, tot) → (∀ l p, M' H.length l = some p → l = lim) → O' w.heap.size = some (S.length, H.length) → hp'[w.heap.size]? = some ob →
      ObjR P g.I O' M' (M' :: Ms) hp' S.length H.length o) :
    ∃ g', Rel P g' ((H ++ [o]) :: S) (w.alloc ob) ∧ Le (S.length + 1) g g' w (w.alloc ob) ∧ ∃ M', g'.Ms = M' :: Ms ∧ M' H.length lim = some (w.heap.size, tot) := by
  have hno : ∀ l, M H.length l = none := fun l => by
    cases hx : M H.length l with
    | none => rfl
    | some p =>
      have := h.rs
      rw [hg] at this
      have := (this.2.1 _ _ _ hx).1
      omega
  refine ⟨{ g with Ms := (fun j l => if j = H.length ∧ l = lim then some (w.heap.size, tot) else M j l) :: Ms, O := fun b => if b = w.heap.size then some (S.length, H.length) else g.O b }, ?_⟩
  have hmle : MsLe (M :: Ms) ((fun j l => if j = H.length ∧ l = lim then some (w.heap.size, tot) else M j l) :: Ms) := ⟨fun j l p hp => by
    by_cases hj : j = H.length ∧ l = lim
    · rw [hj.1, hno] at hp; cases hp
    · simp only [hj, if_false]; exact hp, .refl _⟩
  have := Rel.change (w' := w.alloc ob) hg h H.length o (H ++ [o]) (fun j l => if j = H.length ∧ l = lim then some (w.heap.size, tot) else M j l) (fun b => if b = w.heap.size then some (S.length, H.length) else g.O b)
    rfl rfl rfl (by simp) (fun b hb _ => heap_alloc_old _ _ _ hb)
    (fun j hj => by rw [List.getElem?_append]; split; rfl; rename_i hlt; rw [List.getElem?_eq_none (by simp; omega), List.getElem?_eq_none (by omega)])
    (by simp) (by simp) (fun j l hj => by simp [hj]) (fun l p hp => by rw [hno] at hp; cases hp)
    (fun l p hp => by
      by_cases hl : l = lim
      · simp [hl] at hp; subst hp; simp
      · simp [hl, hno] at hp)
    (fun b hb => by rw [if_neg (by omega)])
    (fun b hb x hx => by
      by_cases he : b = w.heap.size
      · subst he; simp at hx; exact ⟨hx.symm, by simp⟩
      · rw [if_neg he, h.O_new hb] at hx; cases hx)
    (ho _ _ _ hmle (by simp) (fun l p hp => by
      by_cases hl : l = lim
      · exact hl
      · simp [hl, hno] at hp) (by simp) (heap_alloc_new w ob))
  exact ⟨this.1, this.2, _, rfl, by simp⟩

end Go.AS
