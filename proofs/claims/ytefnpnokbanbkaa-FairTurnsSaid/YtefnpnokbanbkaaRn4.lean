/-
  Operations on a memory whose objects are listed. By an AI agent.
-/
import Derived.Test.YtefnpnokbanbkaaRn2
set_option linter.all false
namespace Go.AS
open Go

def hat : Heap → Nat → AObj
  | [], _ => .dead
  | o :: _, 0 => o
  | _ :: r, n + 1 => hat r n
def hset : Heap → Nat → AObj → Heap
  | [], _, _ => []
  | _ :: r, 0, x => x :: r
  | o :: r, n + 1, x => o :: hset r n x
theorem hat_0 (o : AObj) (r : Heap) : hat (o :: r) 0 = o := rfl
theorem hat_1 (o p : AObj) (r : Heap) : hat (o :: p :: r) 1 = p := rfl
theorem hat_2 (o p q : AObj) (r : Heap) : hat (o :: p :: q :: r) 2 = q := rfl
theorem hat_3 (o p q s : AObj) (r : Heap) : hat (o :: p :: q :: s :: r) 3 = s := rfl
theorem hset_0 (o x : AObj) (r : Heap) : hset (o :: r) 0 x = x :: r := rfl
theorem hset_1 (o p x : AObj) (r : Heap) : hset (o :: p :: r) 1 x = o :: x :: r := rfl
theorem hset_2 (o p q x : AObj) (r : Heap) : hset (o :: p :: q :: r) 2 x = o :: p :: x :: r := rfl
theorem hset_3 (o p q s x : AObj) (r : Heap) : hset (o :: p :: q :: s :: r) 3 x = o :: p :: q :: x :: r := rfl
theorem hset_eq : ∀ (H : Heap) (i : Nat) (x : AObj), H.set i x = hset H i x
  | [], _, _ => rfl
  | _ :: _, 0, _ => rfl
  | o :: r, n + 1, x => by simp [hset, hset_eq r n x]
theorem hat_lt : ∀ {H : Heap} {i : Nat} {o : AObj}, o ≠ .dead → hat H i = o → H[i]? = some o
  | [], _, _, h, e => absurd e.symm h
  | _ :: _, 0, _, _, e => by simp [← e, hat]
  | _ :: r, n + 1, _, h, e => by simpa using hat_lt (H := r) (i := n) h e
theorem hat_app {H : Heap} {i : Nat} {o : AObj} (h : H[i]? = some o) : hat H i = o := by
  induction H generalizing i with
  | nil => simp at h
  | cons a r ih =>
    cases i with
    | zero => simpa [hat] using h
    | succ i => exact ih (by simpa using h)
theorem hat_none : ∀ {H : Heap} {i : Nat}, H[i]? = none → hat H i = .dead
  | [], _, _ => rfl
  | _ :: _, 0, h => by simp at h
  | _ :: r, n + 1, h => hat_none (H := r) (i := n) (by simpa using h)

/-! ### Cells -/
def loadO : AObj → Option Nat → Nat → Nat → Option AV
  | .cells cs, n, lim, off => bif Nat.beq cs.length lim then one n cs off else none
  | _, _, _, _ => none
def storeO : AObj → Nat → Nat → Nat → AV → Option AObj
  | .cells cs, n, lim, off, x => match cellsOf x with
    | some vs => bif Nat.beq cs.length lim && Nat.beq vs.length n && Nat.ble (off + n) lim then some (.cells (splice cs off vs)) else none
    | none => none
  | _, _, _, _, _ => none
theorem opV_load_p {H : Heap} {n : Option Nat} {id lim off : Nat} : opV H (.load n (.c (.ptr id lim off))) = (loadO (hat H id) n lim off).map (·, H) := by
  simp only [opV, evOp, Opd.ev]
  cases h : H[id]? with
  | none => rw [hat_none h]; rfl
  | some o =>
    rw [hat_app h]
    cases o with
    | cells cs => simp only [loadO]; cases Nat.beq cs.length lim <;> rfl
    | _ => rfl
theorem opV_store_p {H : Heap} {n : Nat} {id lim off : Nat} {x : AV} : opV H (.store n (.c (.ptr id lim off)) (.c x)) = (storeO (hat H id) n lim off x).map fun o => (.undef, hset H id o) := by
  have e : opV H (.store n (.c (.ptr id lim off)) (.c x)) = match cellsOf x with
    | some vs => (match H[id]? with
      | some (.cells cs) => bif Nat.beq cs.length lim && Nat.beq vs.length n && Nat.ble (off + n) lim then ok .undef (H.set id (.cells (splice cs off vs))) else none
      | _ => none)
    | none => none := by
    simp only [opV, evOp, Opd.ev]; cases cellsOf x <;> rfl
  rw [e]
  cases hx : cellsOf x with
  | none =>
    have : ∀ o, storeO o n lim off x = none := fun o => by cases o <;> simp [storeO, hx]
    rw [this]; rfl
  | some vs =>
    cases h : H[id]? with
    | none => rw [hat_none h]; rfl
    | some o =>
      rw [hat_app h]
      cases o with
      | cells cs =>
        simp only [storeO, hx, hset_eq]
        cases (Nat.beq cs.length lim && Nat.beq vs.length n && Nat.ble (off + n) lim) <;> rfl
      | _ => rfl
theorem opV_faddr_p {H : Heap} {o id lim off : Nat} : opV H (.faddr o (.c (.ptr id lim off))) = some (.ptr id lim (off + o), H) := rfl

/-! ### Maps that are sets of whole numbers -/
def setO (l : List (Int × Nat)) (c : Nat) : AObj := .map (l.map fun p => (.int .i64 p.1, .int .i64 1, p.2)) c
theorem findK_set (x : Int) : ∀ (l : List (Int × Nat)) (i : Nat), findK 0 (.int .i64 x) i (l.map fun p => (.int .i64 p.1, .int .i64 1, p.2)) =
    match l.findIdx? (fun p => decide (x = p.1)) with
    | none => some none
    | some j => some (some (i + j, .int .i64 1, (l.getD j (0, 0)).2))
  | [], _ => rfl
  | p :: r, i => by
    simp only [List.map_cons, findK, primEq, ikEq, beq_self_eq_true, cond_true, List.findIdx?_cons]
    by_cases h : x = p.1
    · have : (x == p.1) = true := by simpa using h
      simp only [this, decide_eq_true h, if_true]
      simp
    · have : (x == p.1) = false := by simpa using h
      simp only [this, decide_eq_false h]
      rw [findK_set x r (i + 1)]
      cases r.findIdx? (fun p => decide (x = p.1)) with
      | none => rfl
      | some j => simp; omega
theorem findIdx_none {x : Int} {l : List (Int × Nat)} (h : x ∉ l.map Prod.fst) : l.findIdx? (fun p => decide (x = p.1)) = none := by
  rw [List.findIdx?_eq_none_iff]
  intro p hp
  simp
  intro e
  exact h (e ▸ List.mem_map_of_mem hp)
theorem findIdx_some {x : Int} {l : List (Int × Nat)} (h : x ∈ l.map Prod.fst) : ∃ j, ∃ hj : j < l.length, l.findIdx? (fun p => decide (x = p.1)) = some j ∧ (l[j]).1 = x := by
  cases hf : l.findIdx? (fun p => decide (x = p.1)) with
  | none =>
    rw [List.findIdx?_eq_none_iff] at hf
    obtain ⟨p, hp, rfl⟩ := List.mem_map.1 h
    have := hf p hp
    simp at this
  | some j =>
    obtain ⟨hj, h1, _⟩ := List.findIdx?_eq_some_iff_getElem.1 hf
    exact ⟨j, hj, rfl, by simpa using Eq.symm (of_decide_eq_true h1)⟩
def addK (l : List (Int × Nat)) (x : Int) (c : Nat) : List (Int × Nat) := if x ∈ l.map Prod.fst then l else l ++ [(x, c)]
def addC (l : List (Int × Nat)) (x : Int) (c : Nat) : Nat := if x ∈ l.map Prod.fst then c else c + 1

def lookO (kk : Nat) (z : AV) (cm : Bool) (k : AV) : AObj → Option AV
  | .map es _ => match findK kk k 0 es with
    | some (some (_, v, _)) => some (bif cm then .tuple [v, .bool true] else v)
    | some none => some (bif cm then .tuple [z, .bool false] else z)
    | none => none
  | _ => none
def mapupO (kk : Nat) (k x : AV) : AObj → Option AObj
  | .map es c => match findK kk k 0 es with
    | some (some (i, _, b)) => some (.map (es.set i (k, x, b)) c)
    | some none => some (.map (es ++ [(k, x, c)]) (c + 1))
    | none => none
  | _ => none
def lenmO : AObj → Option Nat
  | .map es _ => some es.length
  | _ => none
def clearO : AObj → Option AObj
  | .map _ c => some (.map [] c)
  | _ => none
theorem opV_look {H : Heap} {kk : Nat} {z : AV} {cm : Bool} {id : Nat} {k : AV} (hk : keyOk kk k = true) : opV H (.look kk z cm (.c (.map id)) (.c k)) = (lookO kk z cm k (hat H id)).map (·, H) := by
  simp only [opV, evOp, Opd.ev, hk, Bool.not_true, cond_false, ok]
  cases h : H[id]? with
  | none => rw [hat_none h]; rfl
  | some o =>
    rw [hat_app h]
    cases o with
    | map es c => 
      simp only [lookO]
      cases findK kk k 0 es with
      | none => rfl
      | some y => cases y <;> rfl
    | _ => rfl
theorem opV_mapup {H : Heap} {kk id : Nat} {k v : AV} (hk : keyOk kk k = true) : opV H (.mapup kk (.c (.map id)) (.c k) (.c v)) = (mapupO kk k v (hat H id)).map fun o => (.undef, hset H id o) := by
  simp only [opV, evOp, Opd.ev, hk, Bool.not_true, cond_false, ok]
  cases h : H[id]? with
  | none => rw [hat_none h]; rfl
  | some o =>
    rw [hat_app h]
    cases o with
    | map es c =>
      simp only [mapupO, hset_eq]
      cases findK kk k 0 es with
      | none => rfl
      | some y => cases y <;> rfl
    | _ => rfl
theorem opV_lenm {H : Heap} {id : Nat} : opV H (.lenm (.c (.map id))) = (lenmO (hat H id)).map fun n => (.int .i64 n, H) := by
  simp only [opV, evOp, Opd.ev, ok]
  cases h : H[id]? with
  | none => rw [hat_none h]; rfl
  | some o => rw [hat_app h]; cases o <;> rfl
theorem opV_clearm {H : Heap} {id : Nat} : opV H (.clearm (.c (.map id))) = (clearO (hat H id)).map fun o => (.tuple [], hset H id o) := by
  simp only [opV, evOp, Opd.ev, ok]
  cases h : H[id]? with
  | none => rw [hat_none h]; rfl
  | some o => rw [hat_app h]; cases o <;> simp [clearO, hset_eq]
theorem lookO_set {l : List (Int × Nat)} {c : Nat} {x z : Int} : lookO 0 (.int .i64 z) false (.int .i64 x) (setO l c) = some (.int .i64 (if x ∈ l.map Prod.fst then 1 else z)) := by
  simp only [lookO, setO, findK_set]
  by_cases h : x ∈ l.map Prod.fst
  · obtain ⟨j, hj, h1, _⟩ := findIdx_some h
    rw [h1, if_pos h]; rfl
  · rw [findIdx_none h, if_neg h]; rfl
theorem mapupO_set {l : List (Int × Nat)} {c : Nat} {x : Int} : mapupO 0 (.int .i64 x) (.int .i64 1) (setO l c) = some (setO (addK l x c) (addC l x c)) := by
  simp only [mapupO, setO, findK_set, addK, addC]
  by_cases h : x ∈ l.map Prod.fst
  · obtain ⟨j, hj, h1, h2⟩ := findIdx_some h
    rw [h1, if_pos h, if_pos h]
    simp only [Nat.zero_add, Option.some.injEq, AObj.map.injEq, and_true]
    apply List.ext_getElem?
    intro i
    rw [List.getElem?_set]
    split
    · subst i
      rw [List.length_map, if_pos hj, List.getElem?_map, List.getElem?_eq_getElem hj, Option.map_some, h2, List.getD_eq_getElem?_getD, List.getElem?_eq_getElem hj]
      rfl
    · rfl
  · rw [findIdx_none h, if_neg h, if_neg h]
    simp
theorem lenmO_set {l : List (Int × Nat)} {c : Nat} : lenmO (setO l c) = some l.length := by simp [lenmO, setO]
theorem clearO_set {l : List (Int × Nat)} {c : Nat} : clearO (setO l c) = some (setO [] c) := rfl
theorem mkmap_set {H : Heap} : opV H .mkmap = some (.map H.length, H ++ [setO [] 0]) := rfl

/-! ### A slice that is being built -/
section
variable {α : Type} [Cel α]
theorem append_bv1 {H : Heap} {nl : Bool} {l : List α} {n es bytes : Nat} {x : α} (hn : n = H.length) (he : es = Cel.n α) (hp : Nat.blt 0 (Cel.n α) = true) (hr : room bytes (l.length + 1) = true) :
    opV (bh H l) (.append es bytes (.c (bv n nl l)) (.c (.imm false es 1 (some 1) (Cel.enc x)))) = some (bv n nl (l ++ [x]), bh H (l ++ [x])) := by
  subst hn
  refine append_bv he (Nat.le_of_ble_eq_true hp) rfl ?_ hr
  have h0 : Nat.beq es es = true := by simp
  show (bif Nat.beq es es || Nat.beq 1 0 then some (Cel.enc x) else none) = _
  rw [h0]
  simp [cellsL]
theorem append_bvs {H : Heap} {nl nl' : Bool} {l new : List α} {n es bytes : Nat} (hn : n = H.length) (he : es = Cel.n α) (hp : Nat.blt 0 (Cel.n α) = true) (hr : room bytes (l.length + new.length) = true) :
    opV (bh H l) (.append es bytes (.c (bv n nl l)) (.c (sl nl' new))) = some (bv n nl (l ++ new), bh H (l ++ new)) := by
  subst hn
  refine append_bv he (Nat.le_of_ble_eq_true hp) rfl ?_ hr
  obtain ⟨es', e1, e2⟩ := sl_es (nl := nl') (l := new)
  rw [e1, he]
  have : (Nat.beq es' (Cel.n α) || Nat.beq new.length 0) = true := by
    rw [← e2, nbeq, nbeq, nbeq]
    simp [litd, eq_comm]
  show (bif Nat.beq es' (Cel.n α) || Nat.beq new.length 0 then some (cellsL new) else none) = _
  rw [this]; rfl
end

theorem append_int {H : Heap} {nl : Bool} {l : List Int} {n bytes : Nat} {x : Int} (hn : n = H.length) (hr : room bytes (l.length + 1) = true) :
    opV (bh H l) (.append 1 bytes (.c (bv n nl l)) (.c (.imm false 1 1 (some 1) [.int .i64 x]))) = some (bv n nl (l ++ [x]), bh H (l ++ [x])) :=
  append_bv1 (x := x) hn rfl rfl hr
theorem append_str {H : Heap} {nl : Bool} {l : List Str} {n bytes : Nat} {x : Str} (hn : n = H.length) (hr : room bytes (l.length + 1) = true) :
    opV (bh H l) (.append 1 bytes (.c (bv n nl l)) (.c (.imm false 1 1 (some 1) [.str x]))) = some (bv n nl (l ++ [x]), bh H (l ++ [x])) :=
  append_bv1 (x := x) hn rfl rfl hr
theorem append_sl {β : Type} [Cel β] {H : Heap} {nl nl' : Bool} {l : List (Sl β)} {n bytes : Nat} {x : List β} (hn : n = H.length) (hr : room bytes (l.length + 1) = true) :
    opV (bh H l) (.append 1 bytes (.c (bv n nl l)) (.c (.imm false 1 1 (some 1) [sl nl' x]))) = some (bv n nl (l ++ [Sl.mk nl' x]), bh H (l ++ [Sl.mk nl' x])) :=
  append_bv1 (x := Sl.mk nl' x) hn rfl rfl hr
theorem append_0s {α : Type} [Cel α] {H : Heap} {nl nl' : Bool} {new : List α} {es bytes : Nat} (he : es = Cel.n α) (hp : Nat.blt 0 (Cel.n α) = true) (hr : room bytes new.length = true) :
    opV H (.append es bytes (.c (.imm nl 0 0 (some 0) [])) (.c (sl nl' new))) = some (bv H.length nl new, bh H new) :=
  append_bvs (H := H) (l := ([] : List α)) rfl he hp (by simpa using hr)
theorem leave_bv' {α : Type} [Cel α] {H : Heap} {n : Nat} {nl : Bool} {l : List α} (hn : n = H.length) : leave (bh H l) (bv n nl l) = some (sl (nl && l.isEmpty) l) := by subst hn; exact leave_bv
theorem hat_bh {α : Type} [Cel α] {H : Heap} {l : List α} {i : Nat} (h : Nat.blt i H.length = true) : hat (bh H l) i = hat H i := by
  have h1 : i < H.length := Nat.le_of_ble_eq_true h
  rw [hat_app (H := bh H l) (o := H[i]) (by rw [bh_len _ _ _ h1, List.getElem?_eq_getElem h1]), hat_app (List.getElem?_eq_getElem h1)]
theorem hset_bh {α : Type} [Cel α] {H : Heap} {l : List α} {i : Nat} {o : AObj} (h : Nat.blt i H.length = true) : hset (bh H l) i o = bh (hset H i o) l := by
  have h1 : i < H.length := Nat.le_of_ble_eq_true h
  rw [← hset_eq, ← hset_eq]
  cases l with
  | nil => rfl
  | cons a r => simp [bh, List.set_append_left _ _ h1]

theorem opV_mksl {H : Heap} {es b : Nat} {z : List AV} {k k' : IntKind} {n c : Int} (h0 : 0 ≤ n) (h1 : n ≤ c) (h2 : c.toNat * b ≤ 281474976710656) (h3 : c.toNat ≤ 9223372036854775807) :
    opV H (.mksl es b z (.c (.int k n)) (.c (.int k' c))) = some (.ref H.length (c.toNat * es) 0 es n.toNat c.toNat true, H ++ [.cells (repl z c.toNat)]) := by
  have c1 : decide (0 ≤ n) = true := by simpa using h0
  have c2 : decide (n ≤ c) = true := by simpa using h1
  have c3 : Nat.ble (c.toNat * b) roomMost = true := Nat.ble_eq_true_of_le h2
  have c4 : Nat.ble c.toNat maxInt = true := Nat.ble_eq_true_of_le h3
  simp only [opV, evOp, Opd.ev, c1, c2, c3, c4, Bool.and_self, cond_true, ok]
theorem opV_sub_ref_lo {H : Heap} {id lim off es len cap : Nat} {ex : Bool} {k : IntKind} {a : Int} (h0 : 0 ≤ a) (h1 : a ≤ len) :
    opV H (.sub es (.c (.ref id lim off es len cap ex)) (some (.c (.int k a))) none none) = some (.ref id lim (off + a.toNat * es) es (len - a.toNat) (cap - a.toNat) ex, H) := by
  have c1 : decide (0 ≤ a) = true := by simpa using h0
  have c2 : decide (a ≤ (len : Int)) = true := by simpa using h1
  have c3 : Nat.beq es es = true := by simp
  simp only [opV, evOp, Opd.ev, c1, c2, c3, cut, cutHi, cutLo, bnd, Bool.not_true, cond_false, Bool.and_self, cond_true, Option.map_some, ok]
theorem opV_sub_ref_hi {H : Heap} {id lim off es len cap : Nat} {ex : Bool} {k : IntKind} {b : Int} (h0 : 0 ≤ b) (h1 : b ≤ cap) :
    opV H (.sub es (.c (.ref id lim off es len cap ex)) none (some (.c (.int k b))) none) = some (.ref id lim off es b.toNat cap ex, H) := by
  have c1 : decide (0 ≤ b) = true := by simpa using h0
  have c2 : decide (b ≤ (cap : Int)) = true := by simpa using h1
  have c3 : Nat.beq es es = true := by simp
  simp only [opV, evOp, Opd.ev, c1, c2, c3, cut, cutHi, cutLo, bnd, Bool.not_true, cond_false, Bool.and_self, cond_true, Option.map_some, ok]
  simp
theorem opV_len_ref {H : Heap} {id lim off es len cap : Nat} {ex : Bool} : opV H (.len (.c (.ref id lim off es len cap ex))) = some (.int .i64 len, H) := rfl
/-- Of whole numbers. -/
theorem opV_copy_sl {l s : List Int} {nl ex : Bool} {T off len cap : Nat} (h1 : l.length = T) (h2 : off + len ≤ T) :
    opV [.cells (cellsL l)] (.copy 1 (.c (.ref 0 T off 1 len cap ex)) (.c (sl nl s))) = some (.int .i64 (min s.length len : Nat), [.cells (cellsL (l.take off ++ s.take (min s.length len) ++ l.drop (off + min s.length len)))]) := by
  subst h1
  obtain ⟨es', e1, e2⟩ := sl_es (nl := nl) (l := s)
  have c1 : Nat.beq 1 1 = true := rfl
  have c2 : (cellsL l).length = l.length := by rw [cellsL_length]; exact Nat.mul_one _
  have c3 : ∀ n, Nat.beq n n = true := fun n => by simp
  have c4 : Nat.ble (off + len * 1) l.length = true := Nat.ble_eq_true_of_le (by omega)
  have c5 : (Nat.beq es' 1 || Nat.beq s.length 0) = true := by
    rw [← e2, nbeq, nbeq, nbeq]
    simp only [litd]
    congr 2
    exact propext ⟨Eq.symm, Eq.symm⟩
  have c6 : srcCells (sl nl s) [.cells (cellsL l)] 1 = some (cellsL s) := by
    rw [e1]
    show (bif Nat.beq es' 1 || Nat.beq s.length 0 then some (cellsL s) else none) = _
    rw [c5]; rfl
  have c7 : srcLen (sl nl s) = some s.length := rfl
  have c8 : splice (cellsL l) off ((cellsL s).take (min s.length len * 1)) = cellsL (l.take off ++ s.take (min s.length len) ++ l.drop (off + min s.length len)) := by
    have e3 : (cellsL s).take (min s.length len * 1) = cellsL (s.take (min s.length len)) := cellsL_take s _
    rw [e3]
    have e4 : (cellsL (s.take (min s.length len))).length = min s.length len := by
      rw [cellsL_length, List.length_take]; show min (min s.length len) s.length * 1 = _; omega
    simp only [splice, e4, cellsL_append]
    have e5 := cellsL_take l off
    have e6 := cellsL_drop l (off + min s.length len)
    rw [show Cel.n Int = 1 from rfl, Nat.mul_one] at e5 e6
    rw [e5, e6]
  simp only [opV, evOp, Opd.ev, c1, Bool.not_true, cond_false, c6, c7, List.getElem?_cons_zero, c2, c3, c4, Bool.and_self, cond_true, ok, c8, List.set_cons_zero]
theorem opV_copy_self {l : List Int} {ex ex2 : Bool} {T off len cap off2 len2 cap2 : Nat} (h1 : l.length = T) (h2 : off + len ≤ T) (h3 : off2 + len2 ≤ T) :
    opV [.cells (cellsL l)] (.copy 1 (.c (.ref 0 T off 1 len cap ex)) (.c (.ref 0 T off2 1 len2 cap2 ex2))) = some (.int .i64 (min len2 len : Nat), [.cells (cellsL (l.take off ++ (l.drop off2).take (min len2 len) ++ l.drop (off + min len2 len)))]) := by
  subst h1
  have c1 : Nat.beq 1 1 = true := rfl
  have c2 : (cellsL l).length = l.length := by rw [cellsL_length]; exact Nat.mul_one _
  have c3 : ∀ n, Nat.beq n n = true := fun n => by simp
  have c4 : Nat.ble (off + len * 1) l.length = true := Nat.ble_eq_true_of_le (by omega)
  have c5 : Nat.ble (off2 + len2 * 1) l.length = true := Nat.ble_eq_true_of_le (by omega)
  have c6 : srcCells (.ref 0 l.length off2 1 len2 cap2 ex2) [.cells (cellsL l)] 1 = some (((cellsL l).drop off2).take (len2 * 1)) := by
    show (bif Nat.beq (cellsL l).length l.length && Nat.beq 1 1 && Nat.ble (off2 + len2 * 1) l.length then some (((cellsL l).drop off2).take (len2 * 1)) else none) = _
    rw [c2, c3, c5]; rfl
  have c7 : srcLen (.ref 0 l.length off2 1 len2 cap2 ex2) = some len2 := rfl
  have c8 : splice (cellsL l) off ((((cellsL l).drop off2).take (len2 * 1)).take (min len2 len * 1)) = cellsL (l.take off ++ (l.drop off2).take (min len2 len) ++ l.drop (off + min len2 len)) := by
    have e2 := cellsL_drop l off2
    rw [show Cel.n Int = 1 from rfl, Nat.mul_one] at e2
    have e3 : (((cellsL l).drop off2).take (len2 * 1)).take (min len2 len * 1) = cellsL ((l.drop off2).take (min len2 len)) := by
      rw [List.take_take, e2]
      have := cellsL_take (l.drop off2) (min len2 len)
      rw [show Cel.n Int = 1 from rfl] at this
      rw [← this]
      congr 1
      omega
    rw [e3]
    have e4 : (cellsL ((l.drop off2).take (min len2 len))).length = min len2 len := by
      rw [cellsL_length, List.length_take, List.length_drop]; show min (min len2 len) (l.length - off2) * 1 = _; omega
    simp only [splice, e4, cellsL_append]
    have e5 := cellsL_take l off
    have e6 := cellsL_drop l (off + min len2 len)
    rw [show Cel.n Int = 1 from rfl, Nat.mul_one] at e5 e6
    rw [e5, e6]
  simp only [opV, evOp, Opd.ev, c1, Bool.not_true, cond_false, c6, c7, List.getElem?_cons_zero, c2, c3, c4, Bool.and_self, cond_true, ok, c8, List.set_cons_zero]

theorem repl_int (n : Nat) : repl [.int .i64 0] n = cellsL (List.replicate n (0 : Int)) := by
  induction n with
  | zero => rfl
  | succ n ih => rw [repl, ih]; rfl
theorem leave_ref {α : Type} [Cel α] {l : List α} {T es n cap : Nat} {ex : Bool} (h1 : es = Cel.n α) (h2 : T = l.length * es) (h3 : n = l.length) : leave [.cells (cellsL l)] (.ref 0 T 0 es n cap ex) = some (sl false l) := by
  subst h1 h2 h3
  have hm : ∀ (cs : List AV), hfrees cs = true → mapO (frz [.cells (cellsL l)] 999) cs = some cs := by
    intro cs
    induction cs with
    | nil => intro _; rfl
    | cons c cs ih =>
      intro hf
      simp only [hfrees, Bool.and_eq_true] at hf
      have : frz [.cells (cellsL l)] 999 c = some c := by unfold frz; rw [hf.1]; rfl
      simp only [mapO, this, ih hf.2]
  have h0 : ∀ n, Nat.beq n n = true := fun n => by simp
  have hlen : (cellsL l).length = l.length * Cel.n α := cellsL_length l
  have h2 : Nat.ble (0 + l.length * Cel.n α) (l.length * Cel.n α) = true := by simp
  have hf : frz [.cells (cellsL l)] 1000 (.ref 0 (l.length * Cel.n α) 0 (Cel.n α) l.length cap ex) = some (.imm false (Cel.n α) l.length none (cellsL l)) := by
    rw [show (1000 : Nat) = 999 + 1 from rfl, frz]
    simp only [hfree, cond_false, List.getElem?_cons_zero, hlen, h0, h2, Bool.and_self, cond_true, List.drop_zero]
    rw [← hlen, List.take_length, hm _ (hfrees_cellsL _)]
    rfl
  have hd : down (.imm false (Cel.n α) l.length none (cellsL l)) = some (.imm false (Cel.n α) l.length none (cellsL l)) := by
    have : hfree (.imm false (Cel.n α) l.length none (cellsL l)) = true := hfrees_cellsL _
    simp only [down, this, cond_true]
  unfold leave
  rw [hf]
  simp only [hd, Option.map_some]
  cases l with
  | nil => rfl
  | cons a r =>
    have h4 : Nat.beq (r.length + 1) 0 = false := rfl
    simp [fg, sl, imm0, h4, fgs_cellsL]

theorem app_nil (x : AObj) : ([] : Heap) ++ [x] = [x] := rfl
theorem app_1 (a x : AObj) : ([a] : Heap) ++ [x] = [a, x] := rfl
theorem app_2 (a b x : AObj) : ([a, b] : Heap) ++ [x] = [a, b, x] := rfl
theorem app_3 (a b c x : AObj) : ([a, b, c] : Heap) ++ [x] = [a, b, c, x] := rfl
theorem len_0 : ([] : Heap).length = 0 := rfl
theorem len_1 (a : AObj) : ([a] : Heap).length = 1 := rfl
theorem len_2 (a b : AObj) : ([a, b] : Heap).length = 2 := rfl
theorem len_3 (a b c : AObj) : ([a, b, c] : Heap).length = 3 := rfl
theorem hpL : Ty (And.intro @hat_0 <| And.intro @hat_1 <| And.intro @hat_2 <| And.intro @hat_3 <| And.intro @hset_0 <| And.intro @hset_1 <| And.intro @hset_2 <| And.intro @hset_3 <| And.intro @opV_load_p <| And.intro @opV_store_p <| And.intro @opV_faddr_p <|
  And.intro @opV_look <| And.intro @opV_mapup <| And.intro @opV_lenm <| And.intro @opV_clearm <| And.intro @lookO_set <| And.intro @mapupO_set <| And.intro @lenmO_set <| And.intro @clearO_set <| And.intro @mkmap_set <| And.intro @append_bv1 <| And.intro @append_bvs <| And.intro @append_int <| And.intro @append_str <| And.intro @append_sl <| And.intro @append_0s <|
  And.intro @app_nil <| And.intro @app_1 <| And.intro @app_2 <| And.intro @app_3 <| And.intro @len_0 <| And.intro @len_1 <| And.intro @len_2 <| And.intro @len_3 <| And.intro @leave_bv' <| And.intro @hat_bh <| And.intro @opV_mksl <| And.intro @repl_int <| And.intro @leave_ref <| And.intro @opV_sub_ref_lo <| And.intro @opV_sub_ref_hi <| And.intro @opV_len_ref <| And.intro @opV_copy_sl <| And.intro @opV_copy_self <| @hset_bh) :=
  And.intro @hat_0 <| And.intro @hat_1 <| And.intro @hat_2 <| And.intro @hat_3 <| And.intro @hset_0 <| And.intro @hset_1 <| And.intro @hset_2 <| And.intro @hset_3 <| And.intro @opV_load_p <| And.intro @opV_store_p <| And.intro @opV_faddr_p <|
  And.intro @opV_look <| And.intro @opV_mapup <| And.intro @opV_lenm <| And.intro @opV_clearm <| And.intro @lookO_set <| And.intro @mapupO_set <| And.intro @lenmO_set <| And.intro @clearO_set <| And.intro @mkmap_set <| And.intro @append_bv1 <| And.intro @append_bvs <| And.intro @append_int <| And.intro @append_str <| And.intro @append_sl <| And.intro @append_0s <|
  And.intro @app_nil <| And.intro @app_1 <| And.intro @app_2 <| And.intro @app_3 <| And.intro @len_0 <| And.intro @len_1 <| And.intro @len_2 <| And.intro @len_3 <| And.intro @leave_bv' <| And.intro @hat_bh <| And.intro @opV_mksl <| And.intro @repl_int <| And.intro @leave_ref <| And.intro @opV_sub_ref_lo <| And.intro @opV_sub_ref_hi <| And.intro @opV_len_ref <| And.intro @opV_copy_sl <| And.intro @opV_copy_self <| @hset_bh
end Go.AS
