import Derived.Shelf.Strings.SplitShaped
import Derived.Shelf.Strings.OnBuilder
import Derived.Shelf.Strconv.Itoa3
import Derived.Shelf.Strings.Cut
import Derived.Test.YtfffeogjnmalkaaDoorNb0
import Derived.Test.YtfffeogjnmalkaaDoorNb3
set_option linter.all false
/-
  The library's functions on texts: what is told of them, the model does. By an AI agent.
-/
set_option linter.unusedVariables false
namespace Go.AS.Nb
open Go Go.Proofs Go.Shelf Go.RowKit Go.Lib Go.Sort
variable {P : Program} {ρ : Ren} {K : IMap}

theorem splitL_cut (c : UInt8) : ∀ s : List UInt8, splitL c s = if (cutL c s).2.2 then (cutL c s).1 :: splitL c (cutL c s).2.1 else [s]
  | [] => rfl
  | b :: l => by
    have ih := splitL_cut c l
    have e1 : splitL c (b :: l) = bif b == c then [] :: splitL c l else match splitL c l with
      | [] => [[b]]
      | x :: r => (b :: x) :: r := rfl
    have e2 : cutL c (b :: l) = bif b == c then ([], l, true) else match cutL c l with
      | (x, y, t) => (b :: x, y, t) := rfl
    rw [e1, e2]
    cases hb : b == c with
    | true => rfl
    | false =>
      simp only [cond_false]
      cases hc : cutL c l with
      | mk x yt =>
        obtain ⟨y, t⟩ := yt
        rw [hc] at ih
        simp only at ih ⊢
        rw [ih]
        cases t <;> simp
theorem splitL_eq (c : UInt8) : ∀ (k : Nat) (s : List UInt8), Lib.count s [c] = k → splitL c s = Lib.splitK [c] 0 k s := by
  intro k
  induction k with
  | zero =>
    intro s hk
    rw [splitL_cut, cutL_eq]
    have hn : Lib.index s [c] = -1 := by
      have := Lib.index_ge s [c]
      rcases Int.lt_or_le (Lib.index s [c]) 0 with h | h
      · omega
      · obtain ⟨i, hi⟩ : ∃ i : Nat, Lib.index s [c] = i := ⟨_, (Int.toNat_of_nonneg h).symm⟩
        rw [count_hit (by simp) hi] at hk
        omega
    unfold Lib.cut
    rw [hn, if_neg (show ¬ (0 : Int) ≤ -1 by decide)]
    rfl
  | succ k ih =>
    intro s hk
    rw [splitL_cut, cutL_eq]
    have hge := Lib.index_ge s [c]
    have hne : Lib.index s [c] ≠ -1 := fun e => by rw [count_miss e] at hk; omega
    obtain ⟨i, hi⟩ : ∃ i : Nat, Lib.index s [c] = i := ⟨_, (Int.toNat_of_nonneg (by omega)).symm⟩
    rw [count_hit (by simp) hi] at hk
    have h2 := ih (s.drop (i + 1)) (by simp only [List.length_singleton] at hk; omega)
    unfold Lib.cut Lib.splitK
    have h0 : (0 : Int) ≤ (i : Int) := Int.natCast_nonneg i
    rw [hi]
    have h3 : (((i : Nat) : Int) == -1) = false := by simp
    simp only [if_pos h0, if_true, h3, Bool.false_eq_true, if_false, Int.toNat_natCast, List.length_singleton, Nat.add_zero, h2]

/-- A function that looks at no memory of the level's. -/
theorem natOK_s {f : Nat} {nk : NatK} (hV : ∀ args S, natV nk args S = match natS nk args with | some v => some (.ret v, S) | none => none)
    (h : ∀ args v, natS nk args = some v → ∀ (g : G) (S : Stack) (w : World) (xs : List Value), KIn K g → Rel P g S w → RVs g.I args g.Ms false xs →
      Calls P f xs.toArray w fun en w' => ∃ g', Rel P g' S w' ∧ Le S.length g g' w w' ∧ ∃ x, en = .returned x ∧ RV g'.I v g'.Ms x) : NatOK P K f nk := by
  intro args S S' r hn g w xs hK hr ha
  rw [hV] at hn
  split at hn
  · rename_i v hv
    cases hn
    refine (h args v hv g S w xs hK hr ha).mono ?_
    rintro en w' ⟨g', h1, h2, x, rfl, h3⟩
    exact ⟨g', h1, h2, h3⟩
  · cases hn
/-- What is left as it was, but for new blocks. -/
theorem done_below {g : G} {S : Stack} {w w' : World} {v : AV} {x : Value} (hr : Rel P g S w) (hb : Below w.heap.size w w') (hv : RV g.I v g.Ms x) : ∃ g', Rel P g' S w' ∧ Le S.length g g' w w' ∧ ∃ y, Ending.returned x = .returned y ∧ RV g'.I v g'.Ms y :=
  let ⟨h1, h2⟩ := Rel.belowAll hr hb; ⟨g, h1, h2, x, rfl, hv⟩
/-- A new row of texts. -/
theorem done_row {g : G} {S : Stack} {w : World} {t : TypeId} {bs : List ByteArray} {l : List (List UInt8)} (hr : Rel P g S w) (hl : bs.map (·.data.toList) = l) :
    ∃ g', Rel P g' S (w.alloc (.cells (bs.map Value.string).toArray t)) ∧ Le S.length g g' w (w.alloc (.cells (bs.map Value.string).toArray t)) ∧ ∃ y, Ending.returned (.slice (some ⟨w.heap.size, 0, none⟩) l.length l.length) = .returned y ∧ RV g'.I (immS l) g'.Ms y := by
  obtain ⟨h1, h2⟩ := Rel.allocI hr (w.alloc (.cells (bs.map Value.string).toArray t)) _ rfl rfl rfl rfl S.length
  refine ⟨_, h1, h2, _, rfl, some ⟨w.heap.size, 0, none⟩, l.length, bs.map Value.string, rfl, rfl, (fun h => by cases h), Nat.le_refl _, (fun c h => by cases h), by simp, ?_, fun _ => ⟨w.heap.size, 0, (bs.map Value.string).toArray, t, (0, 0), rfl, if_pos rfl, fun i y hy => by simpa using hy⟩⟩
  clear h1 h2
  subst hl
  generalize (fun b => if b = w.heap.size then some (Obj.cells (bs.map Value.string).toArray t (0, 0)) else g.I b) = I'
  induction bs with
  | nil => rfl
  | cons b bs ih => exact ⟨_, _, rfl, ⟨b, rfl, rfl⟩, fun _ => rfl, ih⟩
theorem nat_repeats (L : Lays.n105 P ρ) (X : Builder.Extra P ρ) : NatOK P K (ρ.f 105) .repeats := by
  refine natOK_s (fun _ _ => rfl) fun args v h g S w xs hK hr ha => ?_
  simp only [natS] at h
  split at h
  · rename_i s n heq0
    rw [Bool.cond_eq_ite] at h
    split at h
    · rename_i hc
      simp only [Bool.and_eq_true, decide_eq_true_eq, Nat.ble_eq] at hc
      obtain ⟨⟨h0, h1⟩, h2⟩ := hc
      cases h
      obtain ⟨x1, _, rfl, ha1, _, x2, _, rfl, ha2, _, hz⟩ := ha
      cases hz
      obtain ⟨b, rfl, rfl⟩ : ∃ b : ByteArray, x1 = .string b ∧ b.data.toList = s := ha1
      have ha2 : x2 = .int .i64 n := ha2
      subst ha2
      have hn : ((n.toNat : Nat) : Int) = n := by omega
      have := Any.strings_Repeat L X b n.toNat w (by omega) (by rw [size_eq]; exact h2)
      rw [hn] at this
      refine this.mono ?_
      rintro e w' ⟨rfl, hb⟩
      exact done_below hr hb ⟨_, rfl, by simp [repL_eq]⟩
    · cases h
  all_goals first | (cases h; done) | (rename_i heq _; cases heq; done) | (rename_i heq; cases heq; done)
/-- A variable of the library's that reads as it did. -/
theorem var_keep {W : World} {g : G} {S : Stack} {w : World} (hK : KIn (fun b => W.heap[b]?) g) (hr : Rel P g S w) {b : Nat} {o : Obj} (h : W.heap[b]? = some o) : w.heap[b]? = some o := (hr.im b o (hK b o h)).1
theorem tab_keep {W : World} {g : G} {S : Stack} {w : World} (hK : KIn (fun b => W.heap[b]?) g) (hr : Rel P g S w) {n : String} {k : IntKind} {l : List Int} (h : Lib.TabIs P W n k l) : Lib.TabIs P w n k l := by
  unfold Lib.TabIs World.var? at h ⊢
  cases hg : P.globalNamed n with
  | none => rw [hg] at h; cases h
  | some b =>
    rw [hg] at h
    simp only [Option.bind_some] at h ⊢
    split at h
    · rename_i cs e fz hb
      rw [var_keep hK hr hb]
      exact h
    · cases h
theorem below_grow (w : World) (k : Nat) (os : Array Obj) : Below w.heap.size w (grow (w.drewN k) os) :=
  ⟨rfl, rfl, rfl, by simp [grow, World.drewN], fun j hj => by
    show (w.heap ++ os)[j]? = _
    rw [Array.getElem?_append_left hj]⟩
theorem below_drewN (w : World) (k : Nat) : Below w.heap.size w (w.drewN k) := ⟨rfl, rfl, rfl, Nat.le_refl _, fun _ _ => rfl⟩
theorem nat_itoa (L : LaysM.n171 P ρ) {W : World} (ht : Lib.TabIs P W "internal/strconv.uint64pow10" .u64 Lib.pow10Tab) : NatOK P (fun b => W.heap[b]?) (ρ.f 171) .itoa := by
  refine natOK_s (fun _ _ => rfl) fun args v h g S w xs hK hr ha => ?_
  simp only [natS] at h
  split at h
  · rename_i heq; cases heq
  · rename_i heq; cases heq
  · rename_i n heq0
    rw [Bool.cond_eq_ite] at h
    split at h
    · rename_i hc
      simp only [Bool.and_eq_true, decide_eq_true_eq] at hc
      cases h
      obtain ⟨x1, _, rfl, ha1, _, hz⟩ := ha
      cases hz
      have ha1 : x1 = .int .i64 n := ha1
      subst ha1
      refine (Any.strconv_Itoa L n hc.1 hc.2 w (tab_keep hK hr ht)).mono ?_
      rintro e w' ⟨rfl, k, os, rfl⟩
      exact done_below hr (below_grow w k os) ⟨_, rfl, by simp [itoaL_eq n hc.1 hc.2]⟩
    · cases h
  all_goals first | (cases h; done) | (rename_i heq _; cases heq; done) | (rename_i heq; cases heq; done)
theorem nat_fields (L : LaysM.n157 P ρ) {W : World} (ht : Lib.TabIs P W "strings.asciiSpace" .u8 Lib.asciiSpaceTab) : NatOK P (fun b => W.heap[b]?) (ρ.f 157) .fields := by
  refine natOK_s (fun _ _ => rfl) fun args v h g S w xs hK hr ha => ?_
  simp only [natS] at h
  split at h
  · rename_i heq; cases heq
  · rename_i s heq0
    rw [Bool.cond_eq_ite] at h
    split at h
    · rename_i hc
      simp only [Bool.and_eq_true, List.all_eq_true, Nat.blt_eq, Nat.ble_eq, Bool.not_eq_true'] at hc
      obtain ⟨⟨h0, h1⟩, h2⟩ := hc
      cases h
      obtain ⟨x1, _, rfl, ha1, _, hz⟩ := ha
      cases hz
      obtain ⟨b, rfl, rfl⟩ : ∃ b : ByteArray, x1 = .string b ∧ b.data.toList = s := ha1
      refine (Any.strings_Fields_laid L b w (by rw [size_eq]; omega) (fun j c hj => h0 c (List.mem_of_getElem? hj)) (tab_keep hK hr ht)).mono ?_
      rintro e w' ⟨rfl, rfl⟩
      have hl : ((Lib.fields b.data.toList).map fun l => (⟨l.toArray⟩ : ByteArray)).map (·.data.toList) = fieldsL [] b.data.toList := by
        rw [fieldsL_eq, List.map_map]
        exact (List.map_congr_left fun l _ => show (l.toArray).toList = l from rfl).trans (List.map_id'' (fun _ => rfl) _)
      have := done_row (t := ρ.t 9) hr hl
      rw [List.map_map] at this
      have e1 : (fieldsL [] b.data.toList).length = (Lib.fields b.data.toList).length := by rw [fieldsL_eq]; rfl
      rw [e1] at this
      exact this
    · cases h
  all_goals first | (cases h; done) | (rename_i heq _; cases heq; done) | (rename_i heq; cases heq; done)
theorem nat_split (L : LaysM.n146 P ρ) {W : World} {m : Int} (hm : W.cell? ⟨ρ.g 1, 0, none⟩ = some (.int .i64 m)) : NatOK P (fun b => W.heap[b]?) (ρ.f 146) .split := by
  refine natOK_s (fun _ _ => rfl) fun args v h g S w xs hK hr ha => ?_
  simp only [natS] at h
  split at h
  · rename_i heq; cases heq
  · rename_i heq; cases heq
  · rename_i heq; cases heq
  · rename_i heq; cases heq
  · rename_i s c heq0
    rw [Bool.cond_eq_ite] at h
    split at h
    · rename_i hc
      rw [Nat.ble_eq] at hc
      cases h
      obtain ⟨x1, _, rfl, ha1, _, x2, _, rfl, ha2, _, hz⟩ := ha
      cases hz
      obtain ⟨b, rfl, rfl⟩ : ∃ b : ByteArray, x1 = .string b ∧ b.data.toList = s := ha1
      obtain ⟨d, rfl, hd⟩ : ∃ d : ByteArray, x2 = .string d ∧ d.data.toList = [c] := ha2
      have hm' : w.cell? ⟨ρ.g 1, 0, none⟩ = some (.int .i64 m) := by
        unfold World.cell? at hm ⊢
        cases hb : W.heap[ρ.g 1]? with
        | none => rw [hb] at hm; cases hm
        | some o => rw [hb] at hm; rw [var_keep hK hr hb]; exact hm
      have hds : d.size = 1 := by rw [size_eq, hd]; rfl
      refine (Any.strings_Split { L with } L.i9 b d m w (by rw [size_eq]; omega) hm' (by omega)).mono ?_
      rintro e w' ⟨rfl, rfl⟩
      have hl : (splitB d 0 (countB b d) b).map (·.data.toList) = splitL c b.data.toList := by
        rw [splitB_data, hd, splitL_eq c (countB b d) b.data.toList (by show count b.data.toList [c] = count b.data.toList d.data.toList; rw [hd])]
      have := done_row (t := ρ.t 9) hr hl
      have e1 : (splitL c b.data.toList).length = countB b d + 1 := by
        rw [← hl, List.length_map, splitB_all d (by omega) 0 _ b rfl]
      rw [e1] at this
      exact this
    · cases h
  all_goals first | (cases h; done) | (rename_i heq _; cases heq; done) | (rename_i heq; cases heq; done)
theorem nat_cut (L : Lays.n145 P ρ) {W : World} {m : Int} (hm : W.cell? ⟨ρ.g 1, 0, none⟩ = some (.int .i64 m)) : NatOK P (fun b => W.heap[b]?) (ρ.f 145) .cut := by
  refine natOK_s (fun _ _ => rfl) fun args v h g S w xs hK hr ha => ?_
  simp only [natS] at h
  split at h
  · rename_i heq; cases heq
  · rename_i heq; cases heq
  · rename_i heq; cases heq
  · rename_i heq; cases heq
  · rename_i heq; cases heq
  · rename_i s c heq0
    rw [Bool.cond_eq_ite] at h
    split at h
    · rename_i hc
      rw [Nat.ble_eq] at hc
      cases h
      obtain ⟨x1, _, rfl, ha1, _, x2, _, rfl, ha2, _, hz⟩ := ha
      cases hz
      obtain ⟨b, rfl, rfl⟩ : ∃ b : ByteArray, x1 = .string b ∧ b.data.toList = s := ha1
      obtain ⟨d, rfl, hd⟩ : ∃ d : ByteArray, x2 = .string d ∧ d.data.toList = [c] := ha2
      have hm' : w.cell? ⟨ρ.g 1, 0, none⟩ = some (.int .i64 m) := by
        unfold World.cell? at hm ⊢
        cases hb : W.heap[ρ.g 1]? with
        | none => rw [hb] at hm; cases hm
        | some o => rw [hb] at hm; rw [var_keep hK hr hb]; exact hm
      refine (Any.strings_Cut L b d m w (by rw [size_eq]; omega) hm').mono ?_
      rintro e w' ⟨rfl, n, rfl⟩
      rw [hd, ← cutL_eq]
      exact done_below hr (below_drewN w n) ⟨_, rfl, _, _, rfl, ⟨_, rfl, by simp⟩, (fun h => by cases h), _, _, rfl, ⟨_, rfl, by simp⟩, (fun h => by cases h), _, _, rfl, rfl, (fun h => by cases h), rfl⟩
    · cases h
  · cases h
theorem strs_raised {I : IMap} {Ms : List MMap} : ∀ {cs : List AV} {l : List (List UInt8)} {xs : List Value}, mapO strOf cs = some l → RVs I cs Ms true xs →
    ∃ bs : List ByteArray, xs = bs.map Value.string ∧ bs.map (·.data.toList) = l
  | [], l, xs, hm, h => by
    cases hm
    cases h
    exact ⟨[], rfl, rfl⟩
  | c :: cs, l, xs, hm, h => by
    obtain ⟨y, ys, rfl, h1, h2⟩ := mapO_cons hm
    obtain ⟨x, xs', rfl, hx, _, hr⟩ := h
    obtain ⟨bs, rfl, rfl⟩ := strs_raised h2 hr
    cases c with
    | str s =>
      cases h1
      obtain ⟨b, rfl, rfl⟩ : ∃ b : ByteArray, x = .string b ∧ b.data.toList = y := hx
      exact ⟨b :: bs, rfl, rfl⟩
    | _ => cases h1
theorem nat_join (L : Lays.n156 P ρ) (X : Builder.Extra P ρ) : NatOK P K (ρ.f 156) .join := by
  refine natOK_s (fun _ _ => rfl) fun args v h g S w xs hK hr ha => ?_
  simp only [natS] at h
  split at h
  · rename_i heq; cases heq
  · rename_i heq; cases heq
  · rename_i heq; cases heq
  · rename_i len cap cs sep heq0
    split at h
    · rename_i l hl
      rw [Bool.cond_eq_ite] at h
      split at h
      · rename_i hc
        simp only [Bool.and_eq_true, Nat.beq_eq_true_eq, Nat.blt_eq, Nat.ble_eq] at hc
        obtain ⟨⟨⟨h0, h1⟩, h2⟩, h3⟩ := hc
        cases h
        obtain ⟨x1, _, rfl, ha1, _, x2, _, rfl, ha2, _, hz⟩ := ha
        cases hz
        obtain ⟨d, rfl, rfl⟩ : ∃ d : ByteArray, x2 = .string d ∧ d.data.toList = sep := ha2
        obtain ⟨a, rcap, ys, rfl, _, _, hle, _, hlen, hys, hblk⟩ := ha1
        obtain ⟨bs, rfl, rfl⟩ := strs_raised hl hys
        have hne : cs ≠ [] := fun e => by subst e; simp at hlen; omega
        obtain ⟨blk, off, c, e, fz, rfl, hI, hcs⟩ := hblk hne
        have hb := (hr.im blk _ hI).1
        have hbl : bs.length = len := by simpa using h0
        subst hbl
        have hb' : blk < w.heap.size := by
          rcases Nat.lt_or_ge blk w.heap.size with h | h
          · exact h
          · rw [Array.getElem?_eq_none h] at hb; cases hb
        refine (Any.strings_Join L X blk off rcap bs d w (fun j x hj => ?_) hb' h2 hle (by rw [← joinL_eq]; exact h3)).mono ?_
        · unfold World.cell?
          rw [hb]
          exact hcs j (.string x) (by rw [List.getElem?_map, hj]; rfl)
        · rintro e w' ⟨rfl, hw⟩
          rw [← joinL_eq]
          exact done_below hr hw ⟨_, rfl, rfl⟩
      · cases h
    · cases h
  all_goals first | (cases h; done) | (rename_i heq _; cases heq; done) | (rename_i heq; cases heq; done)
end Go.AS.Nb
