import Derived.Shelf.Strings.BuilderK
import Derived.Shelf.Strings.Repeat
import Derived.Test.YtfffeogjnmalkaaDoorAs22
set_option linter.all false
/-
  strings.Builder's functions, and what they leave as it was. By an AI agent.
-/
set_option linter.unusedVariables false
namespace Go.AS.Nb
open Go Go.Proofs Go.Shelf Go.RowKit Go.Lib
variable {P : Program} {ρ : Ren}

theorem own_same {v v' : Value} {w w' : World} {x y : Value} {r r' : World} {a b : Result Value} (h1 : a = .ok x r) (h2 : a = .ok y r') : x = y ∧ r = r' := by
  rw [h1] at h2
  cases h2
  exact ⟨rfl, rfl⟩

/-- Where the row lies behind an append: where it lay, or in a new block. -/
theorem append_where (w : World) (t ty e : TypeId) (i : TypeInfo) (z : Value) (size bytes : Nat) (ht : P.underlying t = some (.slice e)) (hi : P.info? e = some i) (hz : i.zero = some z)
    (hsize : i.size = size) (hby : i.bytes = bytes) (hzs : z.cells.size = size) (hsz : 0 < size)
    (v : Value) (n : Nat) (xs : List Value) (hown : w.ownsRowF 0 e size v n xs)
    (a : Addr) (m c : Nat) (news : List Value) (hl : news.length = m * size) (hnews : ∀ j u, news[j]? = some u → w.cell? (a.add j) = some u) (h1 : ∀ u ∈ news, u.oneCell' = true)
    (h63 : n + m ≤ maxLen) (hbytes : (n + m) * bytes ≤ 140737488355328) {v' : Value} {w' : World} (hr : (Builtin.append_ #[t, t] ty #[v, .slice (some a) m c]).run P w = .ok v' w') :
    ∀ q, v'.ownBlock = some q → v.ownBlock = some q ∨ w.heap.size ≤ q := by
  intro q hq
  rcases hown.2 with ⟨rfl, rfl⟩ | ⟨g, cap, cur, fz, rfl, hbg, hg, hfz, hnc, hcm, hcs, htake⟩
  · obtain ⟨v2, w2, r1, r2, r3, r4⟩ := run_append_own (P := P) w w.heap.size t ty e i z size bytes ht hi hz hsize hby hzs hsz (.slice none 0 0) 0 xs ⟨hown.1, .inl ⟨rfl, rfl⟩⟩ a m c news hl hnews h1 h63 hbytes (Nat.le_refl _)
    rw [hr] at r1
    cases r1
    rcases r2.2 with ⟨rfl, _⟩ | ⟨g, cap, cur, rfl, hbg, _⟩
    · cases hq
    · cases hq; exact .inr hbg
  · subst hsize
    subst hby
    have hsmall : n + m ≤ 9223372036854775807 := by simp only [maxLen] at h63; omega
    by_cases hroom : n + m ≤ cap
    · have hfit : n * i.size + news.length ≤ cur.size := by rw [hl, hcs, ← Nat.add_mul]; exact Nat.mul_le_mul_right _ hroom
      have h2 := run_append_roomF (P := P) w t ty e i ht hi g n cap cur fz hg hfz a m c news hl hnews h1 hroom hfit
      rw [hr] at h2
      cases h2
      exact .inl hq
    · have holds : ∀ j u, xs[j]? = some u → w.cell? ((⟨g, 0, none⟩ : Addr).add j) = some u := hown.cells (g := g) rfl
      have h2 := run_append_grow (P := P) w t ty e i z ht hi hz ⟨g, 0, none⟩ n cap xs hown.1 holds a m c news hl hnews (by omega) (by omega) (growslice_fits (by omega) hbytes)
      rw [hr] at h2
      cases h2
      cases hq
      exact .inr (Nat.le_refl _)

theorem wpList_append_x {ops : Array Oper} {rest : List Oper} {o : Oper} {a : Act} {w : World} {Q : Exit → Act → World → Prop} (hgd : o.guard = none) (s x : Operand) (t : TypeId)
    (ho : o.op = .call { callee := .builtin .append, args := #[s, x], argTypes := #[t, t] })
    (e : TypeId) (i : TypeInfo) (z : Value) (size bytes : Nat) (ht : P.underlying t = some (.slice e)) (hi : P.info? e = some i) (hz : i.zero = some z)
    (hsize : i.size = size) (hby : i.bytes = bytes) (hzs : z.cells.size = size) (hsz : 0 < size)
    (v : Value) (n : Nat) (xs : List Value) (hs : a.eval s = v) (hown : w.ownsRowF 0 e size v n xs)
    (ad : Addr) (m c : Nat) (news : List Value) (hx : a.eval x = .slice (some ad) m c) (hl : news.length = m * size) (hnews : ∀ j u, news[j]? = some u → w.cell? (ad.add j) = some u) (h1 : ∀ u ∈ news, u.oneCell' = true)
    (h63 : n + m ≤ maxLen) (hbytes : (n + m) * bytes ≤ 140737488355328)
    (h : ∀ v' w', w'.ownsRowF 0 e size v' (n + m) (xs ++ news) → w.grownBy w' v.ownBlock → (∀ q, v'.ownBlock = some q → v.ownBlock = some q ∨ w.heap.size ≤ q) → wpList P ops Q rest (a.put o.dst v') w') : wpList P ops Q (o :: rest) a w := by
  refine wpList_plain hgd fun K hK => ?_
  obtain ⟨v', w', hr, h2, h3, h4⟩ := run_append_ownF (P := P) w 0 t o.type e i z size bytes ht hi hz hsize hby hzs hsz v n xs hown ad m c news hl hnews h1 h63 hbytes (Nat.zero_le _)
  have h5 := append_where (P := P) w t o.type e i z size bytes ht hi hz hsize hby hzs hsz v n xs hown ad m c news hl hnews h1 h63 hbytes hr
  unfold Oper.wp execOp
  simp only [ho, resolve, invoke, builtin, Sem.run_bind, Sem.run_pure, Result.andThen_ok, List.map_toArray, List.map_cons, List.map_nil, hs, hx, hr]
  exact hK _ _ (h v' w' h2 h3 h5)

theorem append_string_where (w : World) (t u ty e : TypeId) (i : TypeInfo) (ht : P.underlying t = some (.slice e)) (hu : P.underlying u = some .string) (hi : P.info? e = some i) (hz : i.zero = some (.int .u8 0))
    (hsize : i.size = 1) (hby : i.bytes = 1)
    (v : Value) (n : Nat) (xs : List Value) (hown : w.ownsRowF 0 e 1 v n xs) (s : ByteArray)
    (h63 : n + s.size ≤ maxLen) (hbytes : n + s.size ≤ 140737488355328) {v' : Value} {w' : World} (hr : (Builtin.append_ #[t, u] ty #[v, .string s]).run P w = .ok v' w') :
    ∀ q, v'.ownBlock = some q → v.ownBlock = some q ∨ w.heap.size ≤ q := by
  intro q hq
  rcases hown.2 with ⟨rfl, rfl⟩ | ⟨g, cap, cur, fz, rfl, hbg, hg, hfz, hnc, hcm, hcs, htake⟩
  · obtain ⟨v2, w2, r1, r2, r3, r4⟩ := run_append_own_string (P := P) w w.heap.size t u ty e i ht hu hi hz hsize hby (.slice none 0 0) 0 xs ⟨hown.1, .inl ⟨rfl, rfl⟩⟩ s h63 hbytes (Nat.le_refl _)
    rw [hr] at r1
    cases r1
    rcases r2.2 with ⟨rfl, _⟩ | ⟨g, cap, cur, rfl, hbg, _⟩
    · cases hq
    · cases hq; exact .inr hbg
  · have hsmall : n + s.size ≤ 9223372036854775807 := by simp only [maxLen] at h63; omega
    have hxl : xs.length = n := by simpa using hown.1
    by_cases hroom : n + s.size ≤ cap
    · have hcs' : cur.size = cap := by simpa using hcs
      have h2 := run_append_room_stringF (P := P) w t u ty e i ht hu hi hsize g n cap cur fz hg (by simpa using hfz) s hroom (by omega)
      rw [hr] at h2
      cases h2
      exact .inl hq
    · have holds : ∀ j u, xs[j]? = some u → w.cell? ((⟨g, 0, none⟩ : Addr).add j) = some u := hown.cells (g := g) rfl
      have h2 := run_append_grow_string (P := P) w t u ty e i (.int .u8 0) ht hu hi hz ⟨g, 0, none⟩ n cap xs (by rw [hsize]; simpa using hxl) holds s (by omega) (by omega) (by rw [hby]; exact growslice_fits (by omega) (by omega))
      rw [hr] at h2
      cases h2
      cases hq
      exact .inr (Nat.le_refl _)

theorem wpList_append_string_x {ops : Array Oper} {rest : List Oper} {o : Oper} {a : Act} {w : World} {Q : Exit → Act → World → Prop} (hgd : o.guard = none) (sl x : Operand) (t u : TypeId)
    (ho : o.op = .call { callee := .builtin .append, args := #[sl, x], argTypes := #[t, u] })
    (e : TypeId) (i : TypeInfo) (ht : P.underlying t = some (.slice e)) (hu : P.underlying u = some .string) (hi : P.info? e = some i) (hz : i.zero = some (.int .u8 0))
    (hsize : i.size = 1) (hby : i.bytes = 1)
    (v : Value) (n : Nat) (xs : List Value) (hs : a.eval sl = v) (hown : w.ownsRowF 0 e 1 v n xs) (s : ByteArray) (hx : a.eval x = .string s)
    (h63 : n + s.size ≤ maxLen) (hbytes : n + s.size ≤ 140737488355328)
    (h : ∀ v' w', w'.ownsRowF 0 e 1 v' (n + s.size) (xs ++ strCells s) → w.grownBy w' v.ownBlock → (∀ q, v'.ownBlock = some q → v.ownBlock = some q ∨ w.heap.size ≤ q) → wpList P ops Q rest (a.put o.dst v') w') : wpList P ops Q (o :: rest) a w := by
  refine wpList_plain hgd fun K hK => ?_
  obtain ⟨v', w', hr, h2, h3, h4⟩ := run_append_own_stringF (P := P) w 0 t u o.type e i ht hu hi hz hsize hby v n xs hown s h63 hbytes (Nat.zero_le _)
  have h5 := append_string_where (P := P) w t u o.type e i ht hu hi hz hsize hby v n xs hown s h63 hbytes hr
  unfold Oper.wp execOp
  simp only [ho, resolve, invoke, builtin, Sem.run_bind, Sem.run_pure, Result.andThen_ok, List.map_toArray, List.map_cons, List.map_nil, hs, hx, hr]
  exact hK _ _ (h v' w' h2 h3 h5)

/-- What a builder's function leaves as it was. -/
structure Fr (b : Nat) (v : Value) (w w' : World) : Prop where
  os : w'.os = w.os
  tape : w'.tape = w.tape
  output : w'.output = w.output
  size : w.heap.size ≤ w'.heap.size
  block : ∀ k, k < w.heap.size → k ≠ b → v.ownBlock ≠ some k → w'.heap[k]? = w.heap[k]?

theorem Fr.refl (b : Nat) (v : Value) (w : World) : Fr b v w w := ⟨rfl, rfl, rfl, Nat.le_refl _, fun _ _ _ _ => rfl⟩
theorem Fr.trans {b : Nat} {v : Value} {w w1 w2 : World} (h : Fr b v w w1) (k : Fr b v w1 w2) : Fr b v w w2 :=
  ⟨k.os.trans h.os, k.tape.trans h.tape, k.output.trans h.output, Nat.le_trans h.size k.size, fun j h1 h2 h3 => (k.block j (Nat.lt_of_lt_of_le h1 h.size) h2 h3).trans (h.block j h1 h2 h3)⟩
theorem Fr.setCell (b o : Nat) (v : Value) (w : World) (u : Value) : Fr b v w (w.setCell ⟨b, o, none⟩ u) :=
  ⟨rfl, rfl, rfl, by simp [World.setCell], fun k _ hk _ => Below.heap_setCell w ⟨b, o, none⟩ u k hk⟩
theorem Fr.alloc (b : Nat) (v : Value) (w : World) (o : Obj) : Fr b v w (w.alloc o) :=
  ⟨rfl, rfl, rfl, by simp, fun k hk _ _ => Below.heap_alloc w o k hk⟩
theorem Fr.grown {b : Nat} {v : Value} {w w' : World} (h : w.grownBy w' v.ownBlock) : Fr b v w w' :=
  ⟨h.os, h.tape, h.output, h.size, fun k hk _ hv => h.block k hk fun e => hv e.symm⟩

/-- A builder's block, and its row. -/
structure Bl (T e : TypeId) (b : Nat) (v : Value) (bs : List Value) (w : World) : Prop where
  cells : ∃ p, w.heap[b]? = some (.cells #[p, v] T (0, 0)) ∧ (p = .pointer none ∨ p = .pointer (some ⟨b, 0, none⟩))
  own : w.ownsRowF 0 e 1 v bs.length bs
  ne : v.ownBlock ≠ some b

theorem Bl.is {T e : TypeId} {b : Nat} {v : Value} {bs : List Value} {w : World} (h : Bl T e b v bs w) : Lib.IsBuilderF T e 0 b bs w := by
  obtain ⟨⟨p, h1, h2⟩, h3, h4⟩ := h
  rcases h2 with rfl | rfl
  · exact .inl ⟨Nat.zero_le _, v, h1, h3, h4⟩
  · exact .inr ⟨Nat.zero_le _, v, h1, h3, h4⟩

theorem copyCheck_x (L : Lays.n240 P ρ) (X : Builder.X72 P ρ) (b : Nat) (v : Value) (bs : List Value) (w : World) (h : Bl (ρ.t 72) (ρ.t 5) b v bs w) :
    Calls P (ρ.f 240) #[.pointer (some ⟨b, 0, none⟩)] w fun e w' => e = .returned (.tuple #[]) ∧ w'.heap[b]? = some (.cells #[.pointer (some ⟨b, 0, none⟩), v] (ρ.t 72) (0, 0)) ∧ w'.ownsRowF 0 (ρ.t 5) 1 v bs.length bs ∧ w'.heap.size = w.heap.size ∧ Fr b v w w' := by
  obtain ⟨⟨p, h1, h2⟩, h3, h4⟩ := h
  rcases h2 with rfl | rfl
  · have hA : Lib.BuilderAtF (ρ.t 72) (ρ.t 5) 0 b (.pointer none) bs w := ⟨Nat.zero_le _, v, h1, h3, h4⟩
    refine (Any.Builder_copyCheck_fresh L X b w hA.cell0 hA.shape hA.frozen0).mono ?_
    rintro e w' ⟨rfl, rfl⟩
    obtain ⟨_, v2, k1, k2, _⟩ := hA.used (.pointer (some ⟨b, 0, none⟩))
    have : v2 = v := by
      have e1 : (w.setCell ⟨b, 0, none⟩ (.pointer (some ⟨b, 0, none⟩))).cell? ⟨b, 1, none⟩ = some v2 := by rw [Lib.cell_of_heap k1]; rfl
      have e2 : (w.setCell ⟨b, 0, none⟩ (.pointer (some ⟨b, 0, none⟩))).heap[b]? = some (.cells #[.pointer (some ⟨b, 0, none⟩), v] (ρ.t 72) (0, 0)) := by
        simp [World.setCell, Array.getElem?_modify, h1]
      rw [Lib.cell_of_heap e2] at e1
      simpa using e1.symm
    subst this
    exact ⟨rfl, k1, k2, by simp [World.setCell], .setCell _ _ _ _ _⟩
  · have hA : Lib.BuilderAtF (ρ.t 72) (ρ.t 5) 0 b (.pointer (some ⟨b, 0, none⟩)) bs w := ⟨Nat.zero_le _, v, h1, h3, h4⟩
    refine (Any.Builder_copyCheck_used L X b w hA.cell0).mono ?_
    rintro e w' ⟨rfl, rfl⟩
    exact ⟨rfl, h1, h3, rfl, .refl _ _ _⟩

end Go.AS.Nb

/-
  strings.Builder's functions: WriteByte, WriteString, String. By an AI agent.
-/
set_option linter.unusedVariables false
namespace Go.AS.Nb
open Go Go.Proofs Go.Shelf Go.RowKit Go.Lib
variable {P : Program} {ρ : Ren}

set_option maxHeartbeats 2000000 in
set_option maxRecDepth 100000 in
theorem WriteByte_x (L : Lays.n167 P ρ) (X : Builder.Extra P ρ) (b : Nat) (v : Value) (bs : List Value) (c : Int) (w : World) (h : Bl (ρ.t 72) (ρ.t 5) b v bs w) (hlen : bs.length + 1 ≤ 140737488355328) :
    Calls P (ρ.f 167) #[.pointer (some ⟨b, 0, none⟩), .int .u8 c] w fun e w' => e = .returned .nilIface ∧ ∃ v', Bl (ρ.t 72) (ρ.t 5) b v' (bs ++ [.int .u8 c]) w' ∧ (∀ q, v'.ownBlock = some q → v.ownBlock = some q ∨ w.heap.size ≤ q) ∧ Fr b v w w' := by
  obtain ⟨i0, hi, hz0, hz1, hz2⟩ := info_parts X.infoByte
  have mixed := L.mixed
  have t72 := L.t72; have a72 := L.a72; have z72 := L.z72; have v72 := L.v72; have u72 := run_underlying L.t72
  have t70 := L.t70; have a70 := L.a70; have z70 := L.z70; have v70 := L.v70; have u70 := run_underlying L.t70
  have t5 := L.t5; have a5 := L.a5; have z5 := L.z5; have v5 := L.v5; have u5 := run_underlying L.t5
  have t37 := L.t37; have a37 := L.a37; have z37 := L.z37; have v37 := L.v37; have u37 := run_underlying L.t37
  have t9 := L.t9; have a9 := L.a9; have z9 := L.z9; have v9 := L.v9; have u9 := run_underlying L.t9
  have t4 := L.t4; have a4 := L.a4; have z4 := L.z4; have v4 := L.v4; have u4 := run_underlying L.t4
  have t164 := L.t164; have a164 := L.a164; have z164 := L.z164; have v164 := L.v164; have u164 := run_underlying L.t164
  have e240 : ∀ args w, (callFunc (ρ.f 240) args).run P w = .ok (.enter (ρ.f 240) args) w := enters_of L.f240 (by kernel_rfl) rfl
  have hne := h.ne
  go_enter L.f167, Body.n167_ntmps ρ
  go_wp2_with (go_at_fn (ρ.f 240); refine (copyCheck_x { L with } X.toX72 b v bs _ h).mono ?_)
  rintro e w1 ⟨rfl, hbk, hown, hsz, hfr⟩
  clear hsz
  have c0 : w1.cell? ⟨b, 0, none⟩ = some (.pointer (some ⟨b, 0, none⟩)) := by rw [Lib.cell_of_heap hbk]; rfl
  have c1 : w1.cell? ⟨b, 1, none⟩ = some v := by rw [Lib.cell_of_heap hbk]; rfl
  go_wp2_with (at_builtin; (refine wpList_append_x rfl _ _ (ρ.t 37) rfl (ρ.t 5) i0 (.int .u8 0) 1 1 L.t37 hi hz0 hz1 hz2 rfl (by decide) _ _ _ rfl (hown.alloc _) ⟨w1.heap.size, 0, none⟩ 1 1 [.int .u8 c] rfl rfl ?c1 ?c2 ?c3 ?c4 ?_))
  case c1 =>
    intro j u hj
    match j, hj with
    | 0, hj => simp at hj; subst hj; simp [Addr.add]
  case c2 => intro u hu; simp at hu; subst hu; rfl
  case c3 => unfold maxLen; omega
  case c4 => omega
  intro v' w2 hown' hgrow hwhere
  have hlt : b < w1.heap.size := by
    rcases Nat.lt_or_ge b w1.heap.size with h' | h'
    · exact h'
    · simp [Array.getElem?_eq_none h'] at hbk
  have hb2 : w2.heap[b]? = some (.cells #[.pointer (some ⟨b, 0, none⟩), v] (ρ.t 72) (0, 0)) := by
    rw [hgrow.block b (by simp; omega) (fun e => hne e.symm), Lib.alloc_old w1 _ b hlt]
    exact hbk
  have d0 : w2.cell? ⟨b, 0, none⟩ = some (.pointer (some ⟨b, 0, none⟩)) := by rw [Lib.cell_of_heap hb2]; rfl
  have d1 : w2.cell? ⟨b, 1, none⟩ = some v := by rw [Lib.cell_of_heap hb2]; rfl
  have f1 : w2.frozen? ⟨b, 1, none⟩ = false := Lib.frozen_of_heap hb2 1
  obtain ⟨g, cap, rfl⟩ : ∃ g cap, v' = .slice (some ⟨g, 0, none⟩) (bs.length + 1) cap := by
    rcases hown'.2 with ⟨_, h0⟩ | ⟨g, cap, cur, fz, hv, _⟩
    · omega
    · exact ⟨g, cap, hv⟩
  go_wp2
  go_ret
  refine ⟨rfl, .slice (some ⟨g, 0, none⟩) (bs.length + 1) cap, ?_, ?_, (hfr.trans ((Fr.alloc b v w1 _).trans (Fr.grown hgrow))).trans (Fr.setCell b 1 v w2 _)⟩
  · obtain ⟨_, v2, k1, k2, k3⟩ := Lib.BuilderAtF.put (T := (ρ.t 72)) (e := (ρ.t 5)) (Nat.zero_le b) hb2 (bs' := bs ++ [.int .u8 c]) (by simpa using hown') X.neB5
    have : (w2.setCell ⟨b, 1, none⟩ (.slice (some ⟨g, 0, none⟩) (bs.length + 1) cap)).heap[b]? = some (.cells #[.pointer (some ⟨b, 0, none⟩), .slice (some ⟨g, 0, none⟩) (bs.length + 1) cap] (ρ.t 72) (0, 0)) := by
      simp [World.setCell, Array.getElem?_modify, hb2]
    rw [this] at k1
    cases k1
    exact ⟨⟨_, this, .inr rfl⟩, k2, k3⟩
  · intro q hq
    rcases hwhere q hq with h1 | h1
    · exact .inl h1
    · exact .inr (by have := hfr.size; omega)

set_option maxHeartbeats 2000000 in
set_option maxRecDepth 100000 in
theorem WriteString_x (L : Lays.n166 P ρ) (X : Builder.Extra P ρ) (b : Nat) (v : Value) (bs : List Value) (s : ByteArray) (w : World) (h : Bl (ρ.t 72) (ρ.t 5) b v bs w) (hlen : bs.length + s.size ≤ 140737488355328) :
    Calls P (ρ.f 166) #[.pointer (some ⟨b, 0, none⟩), .string s] w fun e w' => e = .returned (.tuple #[.int .i64 s.size, .nilIface]) ∧ ∃ v', Bl (ρ.t 72) (ρ.t 5) b v' (bs ++ Lib.strCells s) w' ∧ (∀ q, v'.ownBlock = some q → v.ownBlock = some q ∨ w.heap.size ≤ q) ∧ Fr b v w w' := by
  obtain ⟨i0, hi, hz0, hz1, hz2⟩ := info_parts X.infoByte
  have mixed := L.mixed
  have t72 := L.t72; have a72 := L.a72; have z72 := L.z72; have v72 := L.v72; have u72 := run_underlying L.t72
  have t70 := L.t70; have a70 := L.a70; have z70 := L.z70; have v70 := L.v70; have u70 := run_underlying L.t70
  have t37 := L.t37; have a37 := L.a37; have z37 := L.z37; have v37 := L.v37; have u37 := run_underlying L.t37
  have t3 := L.t3; have a3 := L.a3; have z3 := L.z3; have v3 := L.v3; have u3 := run_underlying L.t3
  have t9 := L.t9; have a9 := L.a9; have z9 := L.z9; have v9 := L.v9; have u9 := run_underlying L.t9
  have t4 := L.t4; have a4 := L.a4; have z4 := L.z4; have v4 := L.v4; have u4 := run_underlying L.t4
  have t164 := L.t164; have a164 := L.a164; have z164 := L.z164; have v164 := L.v164; have u164 := run_underlying L.t164
  have t5 := X.t5; have a5 := X.a5; have z5 := X.z5; have v5 := X.v5; have u5 := run_underlying X.t5
  have e240 : ∀ args w, (callFunc (ρ.f 240) args).run P w = .ok (.enter (ρ.f 240) args) w := enters_of L.f240 (by kernel_rfl) rfl
  have hne := h.ne
  go_enter L.f166, Body.n166_ntmps ρ
  go_wp2_with (go_at_fn (ρ.f 240); refine (copyCheck_x { L with } X.toX72 b v bs _ h).mono ?_)
  rintro e w1 ⟨rfl, hbk, hown, hsz, hfr⟩
  clear hsz
  have c0 : w1.cell? ⟨b, 0, none⟩ = some (.pointer (some ⟨b, 0, none⟩)) := by rw [Lib.cell_of_heap hbk]; rfl
  have c1 : w1.cell? ⟨b, 1, none⟩ = some v := by rw [Lib.cell_of_heap hbk]; rfl
  go_wp2_with (at_builtin; refine wpList_append_string_x rfl _ _ (ρ.t 37) (ρ.t 9) rfl (ρ.t 5) i0 L.t37 L.t9 hi hz0 hz1 hz2 _ _ _ rfl hown s rfl ?c3 ?c4 ?_)
  case c3 => unfold maxLen; omega
  case c4 => omega
  intro v' w2 hown' hgrow hwhere
  have hlt : b < w1.heap.size := by
    rcases Nat.lt_or_ge b w1.heap.size with h' | h'
    · exact h'
    · simp [Array.getElem?_eq_none h'] at hbk
  have hb2 : w2.heap[b]? = some (.cells #[.pointer (some ⟨b, 0, none⟩), v] (ρ.t 72) (0, 0)) := by
    rw [hgrow.block b hlt (fun e => hne e.symm)]
    exact hbk
  have d0 : w2.cell? ⟨b, 0, none⟩ = some (.pointer (some ⟨b, 0, none⟩)) := by rw [Lib.cell_of_heap hb2]; rfl
  have d1 : w2.cell? ⟨b, 1, none⟩ = some v := by rw [Lib.cell_of_heap hb2]; rfl
  have f1 : w2.frozen? ⟨b, 1, none⟩ = false := Lib.frozen_of_heap hb2 1
  obtain ⟨ao, n', cap, rfl⟩ : ∃ ao n' cap, v' = .slice ao n' cap := by
    rcases hown'.2 with ⟨hv, _⟩ | ⟨g, cap, cur, fz, hv, _⟩
    · exact ⟨_, _, _, hv⟩
    · exact ⟨_, _, _, hv⟩
  go_wp2
  go_ret2
  refine ⟨rfl, .slice ao n' cap, ?_, ?_, (hfr.trans (Fr.grown hgrow)).trans (Fr.setCell b 1 v w2 _)⟩
  · obtain ⟨_, v2, k1, k2, k3⟩ := Lib.BuilderAtF.put (T := (ρ.t 72)) (e := (ρ.t 5)) (Nat.zero_le b) hb2 (bs' := bs ++ Lib.strCells s) (by simpa [Lib.strCells_length] using hown') X.neB5
    have : (w2.setCell ⟨b, 1, none⟩ (.slice ao n' cap)).heap[b]? = some (.cells #[.pointer (some ⟨b, 0, none⟩), .slice ao n' cap] (ρ.t 72) (0, 0)) := by
      simp [World.setCell, Array.getElem?_modify, hb2]
    rw [this] at k1
    cases k1
    exact ⟨⟨_, this, .inr rfl⟩, k2, k3⟩
  · intro q hq
    rcases hwhere q hq with h1 | h1
    · exact .inl h1
    · exact .inr (Nat.le_trans hfr.size h1)

theorem Fr.drew (b : Nat) (v : Value) (w : World) : Fr b v w w.drew := ⟨rfl, rfl, rfl, Nat.le_refl _, fun _ _ _ _ => rfl⟩
theorem freeze_other (w : World) (a : Addr) (n k : Nat) (h : k ≠ a.block) : (w.freeze a n).heap[k]? = w.heap[k]? := by
  unfold World.freeze
  split
  · rfl
  · simp only [Array.getElem?_modify]
    rw [if_neg (by omega)]
theorem Fr.freeze {b g n : Nat} {v : Value} {w : World} (h : v.ownBlock = some g) : Fr b v w (w.freeze ⟨g, 0, none⟩ n) :=
  ⟨by unfold World.freeze; split <;> rfl, by unfold World.freeze; split <;> rfl, by unfold World.freeze; split <;> rfl, by unfold World.freeze; split <;> simp, fun k _ _ hv => freeze_other _ _ _ _ fun e => hv (by rw [h]; simpa using e.symm)⟩

theorem Bl.drew {T e : TypeId} {b : Nat} {v : Value} {bs : List Value} {w : World} (h : Bl T e b v bs w) : Bl T e b v bs w.drew := ⟨h.cells, h.own, h.ne⟩
theorem Bl.froze {T e : TypeId} {b g cap : Nat} {v : Value} {bs : List Value} {w : World} (h : Bl T e b v bs w) (hv : v = .slice (some ⟨g, 0, none⟩) bs.length cap) : Bl T e b v bs (w.freeze ⟨g, 0, none⟩ bs.length) := by
  obtain ⟨⟨p, h1, h2⟩, h3, h4⟩ := h
  subst hv
  have hA : Lib.BuilderAtF T e 0 b p bs w := ⟨Nat.zero_le _, _, h1, h3, h4⟩
  have c1 : w.cell? ⟨b, 1, none⟩ = some (.slice (some ⟨g, 0, none⟩) bs.length cap) := by rw [Lib.cell_of_heap h1]; rfl
  obtain ⟨_, v2, k1, k2, k3⟩ := hA.froze c1
  have hg : b ≠ g := fun e => h4 (by simp [Value.ownBlock, e])
  have h5 : (w.freeze ⟨g, 0, none⟩ bs.length).heap[b]? = _ := (freeze_other w ⟨g, 0, none⟩ bs.length b hg).trans h1
  rw [h5] at k1
  cases k1
  exact ⟨⟨p, h5, h2⟩, k2, k3⟩
theorem Bl.alloc {T e : TypeId} {b : Nat} {v : Value} {bs : List Value} {w : World} (h : Bl T e b v bs w) (o : Obj) : Bl T e b v bs (w.alloc o) := by
  obtain ⟨⟨p, h1, h2⟩, h3, h4⟩ := h
  have hlt : b < w.heap.size := by
    rcases Nat.lt_or_ge b w.heap.size with h' | h'
    · exact h'
    · simp [Array.getElem?_eq_none h'] at h1
  exact ⟨⟨p, (Lib.alloc_old w _ b hlt).trans h1, h2⟩, h3.alloc o, h4⟩

set_option maxHeartbeats 2000000 in
set_option maxRecDepth 100000 in
theorem String_1 (L : Lays.n169 P ρ) (X : Builder.Extra P ρ) (b : Nat) (v : Value) (l : List UInt8) (w : World) (h : Bl (ρ.t 72) (ρ.t 5) b v (Lib.byteCells l) w) (h0 : l ≠ []) :
    Calls P (ρ.f 169) #[.pointer (some ⟨b, 0, none⟩)] w fun e w' => e = .returned (.string ⟨l.toArray⟩) ∧ (Bl (ρ.t 72) (ρ.t 5) b v (Lib.byteCells l) w' ∧ Fr b v w w') := by
  have hB := h
  obtain ⟨⟨p, hbk, hp⟩, hown, hne⟩ := h
  have hl0 : l.length ≠ 0 := by simpa using h0
  rw [Lib.byteCells_length] at hown
  obtain ⟨g, cap, cur, fz, rfl, hbg, hg, hfz, hnc, hcm, hcs, htake⟩ : ∃ g cap cur fz, v = .slice (some ⟨g, 0, none⟩) l.length cap ∧ 0 ≤ g ∧ w.heap[g]? = some (.cells cur (ρ.t 5) fz) ∧ fz.2 ≤ l.length * 1 ∧ l.length ≤ cap ∧ cap ≤ maxLen ∧ cur.size = cap * 1 ∧ cur.toList.take (l.length * 1) = Lib.byteCells l := by
    rcases hown.2 with ⟨_, hz⟩ | ⟨g, cap, cur, fz, hv, r⟩
    · exact absurd hz hl0
    · exact ⟨g, cap, cur, fz, hv, r⟩
  have c1 : w.drew.cell? ⟨b, 1, none⟩ = some (.slice (some ⟨g, 0, none⟩) l.length cap) := by
    have : w.drew.heap[b]? = some (.cells #[p, .slice (some ⟨g, 0, none⟩) l.length cap] (ρ.t 72) (0, 0)) := hbk
    rw [Lib.cell_of_heap this]; rfl
  have hSD : (Builtin.unsafeSliceData_ #[(ρ.t 37)] (ρ.t 127) #[.slice (some ⟨g, 0, none⟩) l.length cap]).run P w.drew = .ok (.pointer (some ⟨g, 0, none⟩)) w.drew :=
    Lib.run_unsafeSliceData_row _ _ _ _ _ _ (by omega)
  have hUS : (Builtin.unsafeString_ #[(ρ.t 127), (ρ.t 3)] (ρ.t 9) #[.pointer (some ⟨g, 0, none⟩), .int .i64 l.length]).run P w.drew = .ok (.string ⟨l.toArray⟩) (w.drew.freeze ⟨g, 0, none⟩ l.length) := by
    refine Lib.run_unsafeString_row w.drew (ρ.t 127) (ρ.t 3) (ρ.t 9) (ρ.t 5) L.t127 X.cellsByte g cur.size (by have hg' : w.drew.heap[g]? = some (.cells cur (ρ.t 5) fz) := hg; simp [World.shape?, hg']) l h0 (by omega) (by unfold maxLen at hcm; omega) ?_
    intro j x hx
    exact hown.cells (g := g) rfl j (.int .u8 x.toNat) (by simp [Lib.byteCells, hx])
  have hkeep : Bl (ρ.t 72) (ρ.t 5) b (.slice (some ⟨g, 0, none⟩) l.length cap) (Lib.byteCells l) (w.drew.freeze ⟨g, 0, none⟩ l.length) := by
    have := hB.drew.froze (g := g) (cap := cap) (by rw [Lib.byteCells_length])
    rwa [Lib.byteCells_length] at this
  have hfr : Fr b (.slice (some ⟨g, 0, none⟩) l.length cap) w (w.drew.freeze ⟨g, 0, none⟩ l.length) := (Fr.drew _ _ w).trans (Fr.freeze rfl)
  clear hp hB
  have mixed := L.mixed
  have t72 := L.t72; have a72 := L.a72; have z72 := L.z72; have v72 := L.v72; have u72 := run_underlying L.t72
  have t70 := L.t70; have a70 := L.a70; have z70 := L.z70; have v70 := L.v70; have u70 := run_underlying L.t70
  have t37 := L.t37; have a37 := L.a37; have z37 := L.z37; have v37 := L.v37; have u37 := run_underlying L.t37
  have t127 := L.t127; have a127 := L.a127; have z127 := L.z127; have v127 := L.v127; have u127 := run_underlying L.t127
  have t3 := L.t3; have a3 := L.a3; have z3 := L.z3; have v3 := L.v3; have u3 := run_underlying L.t3
  have t9 := L.t9; have a9 := L.a9; have z9 := L.z9; have v9 := L.v9; have u9 := run_underlying L.t9
  have t5 := X.t5; have a5 := X.a5; have z5 := X.z5; have v5 := X.v5; have u5 := run_underlying X.t5
  go_enter L.f169, Body.n169_ntmps ρ
  go_wp2
  go_region_o
  all_goals (go_wp2; go_ret; exact ⟨rfl, hkeep, hfr⟩)

set_option maxHeartbeats 2000000 in
set_option maxRecDepth 100000 in
theorem String_nil (L : Lays.n169 P ρ) (X : Builder.Extra P ρ) (b : Nat) (p : Value) (w : World) (hbk : w.heap[b]? = some (.cells #[p, .slice none 0 0] (ρ.t 72) (0, 0))) (h : Bl (ρ.t 72) (ρ.t 5) b (.slice none 0 0) [] w) :
    Calls P (ρ.f 169) #[.pointer (some ⟨b, 0, none⟩)] w fun e w' => e = .returned (.string ⟨#[]⟩) ∧ (Bl (ρ.t 72) (ρ.t 5) b (.slice none 0 0) [] w' ∧ Fr b (.slice none 0 0) w w') := by
  have hUS := Any.unsafeString_none L X
  have c1 : w.drew.cell? ⟨b, 1, none⟩ = some (.slice none 0 0) := by
    have : w.drew.heap[b]? = some (.cells #[p, .slice none 0 0] (ρ.t 72) (0, 0)) := hbk
    rw [Lib.cell_of_heap this]; rfl
  have hSD : (Builtin.unsafeSliceData_ #[(ρ.t 37)] (ρ.t 127) #[.slice none 0 0]).run P w.drew = .ok (.pointer none) w.drew := rfl
  have mixed := L.mixed
  have t72 := L.t72; have a72 := L.a72; have z72 := L.z72; have v72 := L.v72; have u72 := run_underlying L.t72
  have t70 := L.t70; have a70 := L.a70; have z70 := L.z70; have v70 := L.v70; have u70 := run_underlying L.t70
  have t37 := L.t37; have a37 := L.a37; have z37 := L.z37; have v37 := L.v37; have u37 := run_underlying L.t37
  have t127 := L.t127; have a127 := L.a127; have z127 := L.z127; have v127 := L.v127; have u127 := run_underlying L.t127
  have t3 := L.t3; have a3 := L.a3; have z3 := L.z3; have v3 := L.v3; have u3 := run_underlying L.t3
  have t9 := L.t9; have a9 := L.a9; have z9 := L.z9; have v9 := L.v9; have u9 := run_underlying L.t9
  have t5 := X.t5; have a5 := X.a5; have z5 := X.z5; have v5 := X.v5; have u5 := run_underlying X.t5
  go_enter L.f169, Body.n169_ntmps ρ
  go_wp2
  go_region_o
  all_goals (go_wp2; go_ret; exact ⟨rfl, h.drew, Fr.drew _ _ w⟩)

set_option maxHeartbeats 2000000 in
set_option maxRecDepth 100000 in
theorem String_noroom (L : Lays.n169 P ρ) (X : Builder.Extra P ρ) (b g : Nat) (p : Value) (cur : Array Value) (w : World) (hbk : w.heap[b]? = some (.cells #[p, .slice (some ⟨g, 0, none⟩) 0 0] (ρ.t 72) (0, 0))) (fz : Nat × Nat) (hg : w.heap[g]? = some (.cells cur (ρ.t 5) fz)) (h : Bl (ρ.t 72) (ρ.t 5) b (.slice (some ⟨g, 0, none⟩) 0 0) [] w) :
    Calls P (ρ.f 169) #[.pointer (some ⟨b, 0, none⟩)] w fun e w' => e = .returned (.string ⟨#[]⟩) ∧ (Bl (ρ.t 72) (ρ.t 5) b (.slice (some ⟨g, 0, none⟩) 0 0) [] w' ∧ Fr b (.slice (some ⟨g, 0, none⟩) 0 0) w w') := by
  have hUS := Any.unsafeString_none L X
  have hlt : b < w.heap.size := by
    rcases Nat.lt_or_ge b w.heap.size with h' | h'
    · exact h'
    · simp [Array.getElem?_eq_none h'] at hbk
  have c1 : w.drew.cell? ⟨b, 1, none⟩ = some (.slice (some ⟨g, 0, none⟩) 0 0) := by
    have : w.drew.heap[b]? = some (.cells #[p, .slice (some ⟨g, 0, none⟩) 0 0] (ρ.t 72) (0, 0)) := hbk
    rw [Lib.cell_of_heap this]; rfl
  have hSD : (Builtin.unsafeSliceData_ #[(ρ.t 37)] (ρ.t 127) #[.slice (some ⟨g, 0, none⟩) 0 0]).run P w.drew = .ok (.pointer (some ⟨w.drew.heap.size, 0, none⟩)) (w.drew.alloc (.view ⟨g, 0, none⟩ (ρ.t 5))) :=
    Lib.run_unsafeSliceData_zero w.drew _ _ (ρ.t 5) L.t127 ⟨g, 0, none⟩ 0 ((ρ.t 5), cur.size) (by have hg' : w.drew.heap[g]? = some (.cells cur (ρ.t 5) fz) := hg; simp [World.shape?, hg'])
  have c2 : (w.drew.alloc (.view ⟨g, 0, none⟩ (ρ.t 5))).cell? ⟨b, 1, none⟩ = some (.slice (some ⟨g, 0, none⟩) 0 0) := by
    have : (w.drew.alloc (.view ⟨g, 0, none⟩ (ρ.t 5))).heap[b]? = _ := (Lib.alloc_old w.drew _ b hlt).trans hbk
    rw [Lib.cell_of_heap this]; rfl
  have c3 : (w.alloc (.view ⟨g, 0, none⟩ (ρ.t 5))).drew.cell? ⟨b, 1, none⟩ = some (.slice (some ⟨g, 0, none⟩) 0 0) := c2
  have c0 : w.cell? ⟨b, 1, none⟩ = some (.slice (some ⟨g, 0, none⟩) 0 0) := c1
  have mixed := L.mixed
  have t72 := L.t72; have a72 := L.a72; have z72 := L.z72; have v72 := L.v72; have u72 := run_underlying L.t72
  have t70 := L.t70; have a70 := L.a70; have z70 := L.z70; have v70 := L.v70; have u70 := run_underlying L.t70
  have t37 := L.t37; have a37 := L.a37; have z37 := L.z37; have v37 := L.v37; have u37 := run_underlying L.t37
  have t127 := L.t127; have a127 := L.a127; have z127 := L.z127; have v127 := L.v127; have u127 := run_underlying L.t127
  have t3 := L.t3; have a3 := L.a3; have z3 := L.z3; have v3 := L.v3; have u3 := run_underlying L.t3
  have t9 := L.t9; have a9 := L.a9; have z9 := L.z9; have v9 := L.v9; have u9 := run_underlying L.t9
  have t5 := X.t5; have a5 := X.a5; have z5 := X.z5; have v5 := X.v5; have u5 := run_underlying X.t5
  go_enter L.f169, Body.n169_ntmps ρ
  go_wp2
  go_region_o
  all_goals (go_wp2; go_ret; exact ⟨rfl, h.drew.alloc _, (Fr.drew _ _ w).trans (Fr.alloc _ _ _ _)⟩)

set_option maxHeartbeats 2000000 in
set_option maxRecDepth 100000 in
theorem String_room (L : Lays.n169 P ρ) (X : Builder.Extra P ρ) (b g cap : Nat) (p : Value) (w : World) (hc0 : cap ≠ 0) (hbk : w.heap[b]? = some (.cells #[p, .slice (some ⟨g, 0, none⟩) 0 cap] (ρ.t 72) (0, 0))) (h : Bl (ρ.t 72) (ρ.t 5) b (.slice (some ⟨g, 0, none⟩) 0 cap) [] w) :
    Calls P (ρ.f 169) #[.pointer (some ⟨b, 0, none⟩)] w fun e w' => e = .returned (.string ⟨#[]⟩) ∧ (Bl (ρ.t 72) (ρ.t 5) b (.slice (some ⟨g, 0, none⟩) 0 cap) [] w' ∧ Fr b (.slice (some ⟨g, 0, none⟩) 0 cap) w w') := by
  have hUS := Any.unsafeString_none L X
  have c1 : w.drew.cell? ⟨b, 1, none⟩ = some (.slice (some ⟨g, 0, none⟩) 0 cap) := by
    have : w.drew.heap[b]? = some (.cells #[p, .slice (some ⟨g, 0, none⟩) 0 cap] (ρ.t 72) (0, 0)) := hbk
    rw [Lib.cell_of_heap this]; rfl
  have hSD : (Builtin.unsafeSliceData_ #[(ρ.t 37)] (ρ.t 127) #[.slice (some ⟨g, 0, none⟩) 0 cap]).run P w.drew = .ok (.pointer (some ⟨g, 0, none⟩)) w.drew :=
    Lib.run_unsafeSliceData_row _ _ _ _ _ _ hc0
  clear hc0
  have mixed := L.mixed
  have t72 := L.t72; have a72 := L.a72; have z72 := L.z72; have v72 := L.v72; have u72 := run_underlying L.t72
  have t70 := L.t70; have a70 := L.a70; have z70 := L.z70; have v70 := L.v70; have u70 := run_underlying L.t70
  have t37 := L.t37; have a37 := L.a37; have z37 := L.z37; have v37 := L.v37; have u37 := run_underlying L.t37
  have t127 := L.t127; have a127 := L.a127; have z127 := L.z127; have v127 := L.v127; have u127 := run_underlying L.t127
  have t3 := L.t3; have a3 := L.a3; have z3 := L.z3; have v3 := L.v3; have u3 := run_underlying L.t3
  have t9 := L.t9; have a9 := L.a9; have z9 := L.z9; have v9 := L.v9; have u9 := run_underlying L.t9
  have t5 := X.t5; have a5 := X.a5; have z5 := X.z5; have v5 := X.v5; have u5 := run_underlying X.t5
  go_enter L.f169, Body.n169_ntmps ρ
  go_wp2
  go_region_o
  all_goals (go_wp2; go_ret; exact ⟨rfl, h.drew, Fr.drew _ _ w⟩)

theorem String_x (L : Lays.n169 P ρ) (X : Builder.Extra P ρ) (b : Nat) (v : Value) (l : List UInt8) (w : World) (h : Bl (ρ.t 72) (ρ.t 5) b v (Lib.byteCells l) w) :
    Calls P (ρ.f 169) #[.pointer (some ⟨b, 0, none⟩)] w fun e w' => e = .returned (.string ⟨l.toArray⟩) ∧ (Bl (ρ.t 72) (ρ.t 5) b v (Lib.byteCells l) w' ∧ Fr b v w w') := by
  cases l with
  | cons x r => exact String_1 L X b v (x :: r) w h (by simp)
  | nil =>
    obtain ⟨p, hbk, _⟩ := h.cells
    rcases h.own.2 with ⟨rfl, _⟩ | ⟨g, cap, cur, fz, rfl, hbg, hg, _⟩
    · exact String_nil L X b p w hbk h
    · by_cases hc0 : cap = 0
      · subst hc0
        exact String_noroom L X b g p cur w hbk fz hg h
      · exact String_room L X b g cap p w hc0 hbk h
end Go.AS.Nb

/-
  What the evaluator tells of strings.Builder's functions, and of strings.Repeat, the model does. By an AI agent.
-/
set_option linter.unusedVariables false
namespace Go.AS.Nb
open Go Go.Proofs Go.Shelf Go.RowKit Go.Lib
variable {P : Program} {ρ : Ren}

theorem rowOf_eq (v : Value) : rowOf v = v.ownBlock := by
  cases v with
  | slice a n c => cases a <;> rfl
  | _ => rfl

theorem own_of {w : World} {e : TypeId} {v : Value} {bs : List UInt8} (h : RowB w.heap e v bs) : w.ownsRowF 0 e 1 v (byteCells bs).length (byteCells bs) := by
  rcases h with ⟨rfl, rfl⟩ | ⟨q, cap, cur, fz, rfl, h1, h2, h3, h4, h5, h6⟩
  · exact ⟨by simp [byteCells], .inl ⟨rfl, rfl⟩⟩
  · refine ⟨by simp, .inr ⟨q, cap, cur, fz, by rw [byteCells_length], Nat.zero_le _, h1, ?_, ?_, h4, ?_, ?_⟩⟩
    · rw [byteCells_length]; omega
    · rw [byteCells_length]; exact h3
    · omega
    · rw [byteCells_length, Nat.mul_one]; exact h6

theorem of_own {w : World} {e : TypeId} {v : Value} {bs : List UInt8} (h : w.ownsRowF 0 e 1 v (byteCells bs).length (byteCells bs)) : RowB w.heap e v bs := by
  rw [byteCells_length] at h
  rcases h.2 with ⟨rfl, h0⟩ | ⟨q, cap, cur, fz, rfl, _, h1, h2, h3, h4, h5, h6⟩
  · exact .inl ⟨rfl, List.length_eq_zero_iff.1 h0⟩
  · exact .inr ⟨q, cap, cur, fz, rfl, h1, by omega, h3, h4, by omega, by rw [Nat.mul_one] at h6; exact h6⟩

/-- A builder of the level's. -/
theorem bld_at {g : G} {H : Heap} {S : Stack} {w : World} (hr : Rel P g (H :: S) w) {id : Nat} {T e : TypeId} {bs : List UInt8} (hid : H[id]? = some (.bld T e bs)) {x : Value} (hx : RV g.I (.ptr id 0 0) g.Ms x) :
    ∃ M Ms blk tot v, g.Ms = M :: Ms ∧ M id 0 = some (blk, tot) ∧ x = .pointer (some ⟨blk, 0, none⟩) ∧ g.O blk = some (S.length, id) ∧ (∀ q, v.ownBlock = some q → g.O q = some (S.length, id)) ∧ Bl T e blk v (byteCells bs) w := by
  obtain ⟨M, Ms, blk, tot, f1, f2, rfl⟩ := hx
  have hrs := hr.rs
  rw [f1] at hrs
  obtain ⟨blk', tot', p, v, m1, m2, m3, m4, m5, m6⟩ := hrs.1 id _ hid
  cases f2.symm.trans m1
  exact ⟨M, Ms, blk, tot, v, f1, f2, rfl, m2, fun q hq => (m5 q (by rw [rowOf_eq]; exact hq)).2, ⟨p, m3, m4⟩, own_of m6, fun hq => (m5 blk (by rw [rowOf_eq]; exact hq)).1 rfl⟩

/-- .. behind one of its functions. -/
theorem bld_to {g : G} {H : Heap} {S : Stack} {w w' : World} {M : MMap} {Ms : List MMap} (hg : g.Ms = M :: Ms) (hr : Rel P g (H :: S) w) {id : Nat} {T e : TypeId} {bs bs' : List UInt8} (hid : H[id]? = some (.bld T e bs))
    {blk tot : Nat} {v v' : Value} (hM : M id 0 = some (blk, tot)) (hO : g.O blk = some (S.length, id)) (hq : ∀ q, v.ownBlock = some q → g.O q = some (S.length, id)) (hb : Bl T e blk v' (byteCells bs') w')
    (hw : ∀ q, v'.ownBlock = some q → v.ownBlock = some q ∨ w.heap.size ≤ q) (hf : Fr blk v w w') :
    ∃ g', Rel P g' (H.set id (.bld T e bs') :: S) w' ∧ Le (S.length + 1) g g' w w' := by
  obtain ⟨⟨p, c1, c2⟩, c3, c4⟩ := hb
  have hlt := (List.getElem?_eq_some_iff.1 hid).1
  have hblt := (hr.ow _ _ hO).1
  have hOn : ∀ b, w.heap.size ≤ b → g.O b = none := fun b hb => hr.O_new hb
  have h1 := hr.rs
  rw [hg] at h1
  have := Rel.change (w' := w') hg hr id (.bld T e bs') (H.set id (.bld T e bs')) M (fun b => if b < w.heap.size then g.O b else if v'.ownBlock = some b then some (S.length, id) else none) hf.os hf.tape hf.output hf.size
    (fun b hb hne => hf.block b hb (fun e => hne (by rw [e]; exact hO)) (fun e => hne (hq b e)))
    (fun j hj => List.getElem?_set_ne (Ne.symm hj)) (by rw [List.getElem?_set_self hlt]) (by simp) (fun _ _ _ => rfl) (fun _ _ h => h)
    (fun lim p hp => by
      have h2 := (h1.2.1 id lim p hp).2
      show (if p.1 < w.heap.size then g.O p.1 else _) = _
      rw [if_pos (hr.ow _ _ h2).1]; exact h2)
    (fun b hb => if_pos hb)
    (fun b hb x hx => by
      simp only [if_neg (show ¬ b < w.heap.size by omega)] at hx
      split at hx
      · rename_i hv
        cases hx
        exact ⟨rfl, (c3.lt b hv).2⟩
      · cases hx)
    (by
      refine ⟨blk, tot, p, v', hM, ?_, c1, c2, fun q hv => ?_, of_own c3⟩
      · show (if blk < w.heap.size then g.O blk else _) = _
        rw [if_pos hblt]; exact hO
      · rw [rowOf_eq] at hv
        refine ⟨fun e => c4 (by rw [← e]; exact hv), ?_⟩
        show (if q < w.heap.size then g.O q else if v'.ownBlock = some q then _ else _) = _
        rw [if_pos hv]
        split
        · rename_i hql
          rcases hw q hv with h2 | h2
          · exact hq q h2
          · omega
        · rfl)
  exact ⟨_, this⟩

theorem byteCells_snoc (bs : List UInt8) (n : Int) (h0 : 0 ≤ n) (h1 : n < 256) : byteCells bs ++ [.int .u8 n] = byteCells (bs ++ [UInt8.ofNat n.toNat]) := by
  have : ((UInt8.ofNat n.toNat).toNat : Int) = n := by
    simp only [UInt8.toNat_ofNat']
    omega
  simp only [byteCells, List.map_append, List.map_cons, List.map_nil, this]

theorem nat_wbyte (L : Lays.n167 P ρ) (X : Builder.Extra P ρ) {K : IMap} : NatOK P K (ρ.f 167) (.wbyte (ρ.t 72) (ρ.t 5)) := by
  intro args S S' r h g w xs _ hr ha
  simp only [natV] at h
  split at h
  · rename_i t el id n H S heq
    cases heq
    split at h
    · rename_i t' el' bs hid
      rw [Bool.cond_eq_ite] at h
      split at h
      · rename_i hc
        simp only [Bool.and_eq_true, decide_eq_true_eq, Nat.ble_eq, Nat.beq_eq] at hc
        obtain ⟨⟨⟨⟨rfl, rfl⟩, hlen⟩, hn0⟩, hn1⟩ := hc
        cases h
        obtain ⟨x1, _, rfl, ha1, _, x2, _, rfl, ha2, _, hz⟩ := ha
        cases hz
        have ha2 : x2 = .int .u8 n := ha2
        subst ha2
        obtain ⟨M, Ms, blk, tot, v, hg, hM, rfl, hO, hq, hB⟩ := bld_at hr hid ha1
        refine (WriteByte_x L X blk v (byteCells bs) n w hB (by rw [byteCells_length]; exact hlen)).mono ?_
        rintro e w' ⟨rfl, v', k1, k2, k3⟩
        rw [byteCells_snoc bs n hn0 hn1] at k1
        obtain ⟨g', j1, j2⟩ := bld_to (bs' := bs ++ [UInt8.ofNat n.toNat]) hg hr hid hM hO hq k1 k2 k3
        exact ⟨g', j1, j2, rfl⟩
      · cases h
    · cases h
  all_goals first | (cases h; done) | (rename_i heq; cases heq; done) | (rename_i heq _ _; cases heq; done)

theorem nat_wstr (L : Lays.n166 P ρ) (X : Builder.Extra P ρ) {K : IMap} : NatOK P K (ρ.f 166) (.wstr (ρ.t 72) (ρ.t 5)) := by
  intro args S S' r h g w xs _ hr ha
  simp only [natV] at h
  split at h
  · rename_i heq; cases heq
  · rename_i t el id s H S heq
    cases heq
    split at h
    · rename_i t' el' bs hid
      rw [Bool.cond_eq_ite] at h
      split at h
      · rename_i hc
        simp only [Bool.and_eq_true, decide_eq_true_eq, Nat.ble_eq, Nat.beq_eq] at hc
        obtain ⟨⟨rfl, rfl⟩, hlen⟩ := hc
        cases h
        obtain ⟨x1, _, rfl, ha1, _, x2, _, rfl, ha2, _, hz⟩ := ha
        cases hz
        obtain ⟨b, rfl, rfl⟩ : ∃ b : ByteArray, x2 = .string b ∧ b.data.toList = s := ha2
        obtain ⟨M, Ms, blk, tot, v, hg, hM, rfl, hO, hq, hB⟩ := bld_at hr hid ha1
        have hsz : b.size = b.data.toList.length := size_eq b
        refine (WriteString_x L X blk v (byteCells bs) b w hB (by rw [byteCells_length, hsz]; exact hlen)).mono ?_
        rintro e w' ⟨rfl, v', k1, k2, k3⟩
        have : byteCells bs ++ strCells b = byteCells (bs ++ b.data.toList) := by simp [byteCells, strCells]
        rw [this] at k1
        obtain ⟨g', j1, j2⟩ := bld_to (bs' := bs ++ b.data.toList) hg hr hid hM hO hq k1 k2 k3
        exact ⟨g', j1, j2, _, rfl, _, _, rfl, by rw [hsz]; rfl, (fun h => by cases h), _, _, rfl, rfl, (fun h => by cases h), rfl⟩
      · cases h
    · cases h
  all_goals first | (cases h; done) | (rename_i heq; cases heq; done)

theorem nat_bstr (L : Lays.n169 P ρ) (X : Builder.Extra P ρ) {K : IMap} : NatOK P K (ρ.f 169) (.bstr (ρ.t 72) (ρ.t 5)) := by
  intro args S S' r h g w xs _ hr ha
  simp only [natV] at h
  split at h
  · rename_i heq; cases heq
  · rename_i heq; cases heq
  · rename_i t el id H S heq
    cases heq
    split at h
    · rename_i t' el' bs hid
      rw [Bool.cond_eq_ite] at h
      split at h
      · rename_i hc
        simp only [Bool.and_eq_true, Nat.beq_eq] at hc
        obtain ⟨rfl, rfl⟩ := hc
        cases h
        obtain ⟨x1, _, rfl, ha1, _, hz⟩ := ha
        cases hz
        obtain ⟨M, Ms, blk, tot, v, hg, hM, rfl, hO, hq, hB⟩ := bld_at hr hid ha1
        refine (String_x L X blk v bs w hB).mono ?_
        rintro e w' ⟨rfl, k1, k3⟩
        obtain ⟨g', j1, j2⟩ := bld_to (bs' := bs) hg hr hid hM hO hq k1 (fun q hv => .inl hv) k3
        exact ⟨g', j1, j2, _, rfl, by simp⟩
      · cases h
    · cases h
  all_goals first | (cases h; done) | (rename_i heq; cases heq; done)

/-- What leaves all as it was. -/
theorem Rel.belowAll {g : G} {S : Stack} {w w' : World} (hr : Rel P g S w) (h : Below w.heap.size w w') : Rel P g S w' ∧ Le S.length g g w w' :=
  ⟨⟨RelS.frame (fun _ _ h => h) hr.rs fun b l id hb _ => ⟨hb, h.block b (hr.ow b _ hb).1⟩, fun b o hb => ⟨(h.block b (Array.getElem?_eq_some_iff.1 (hr.im b o hb).1).1).trans (hr.im b o hb).1, (hr.im b o hb).2⟩,
    fun b x hb => ⟨Nat.lt_of_lt_of_le (hr.ow b x hb).1 h.size, (hr.ow b x hb).2⟩, fun b hb => (h.block b (Array.getElem?_eq_some_iff.1 (hr.bm b hb)).1).trans (hr.bm b hb), hr.lv⟩,
   h.os, h.tape, h.output, h.size, .refl _, fun _ _ h => h, fun _ _ => rfl, fun _ _ => rfl, fun _ _ => Iff.rfl, fun b hb _ => h.block b hb⟩

theorem repL_eq (l : List UInt8) (n : Nat) : repL l n = repeatL l n := by
  induction n with
  | zero => rfl
  | succ n ih => simp [repL, repeatL, ih]

end Go.AS.Nb
