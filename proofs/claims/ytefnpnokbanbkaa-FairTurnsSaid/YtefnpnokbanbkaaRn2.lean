/-
  The walk's words, in one bundle. By an AI agent.
-/
import Derived.Test.YtefnpnokbanbkaaRn1
set_option linter.all false
namespace Go.AS
open Go

/-- A question between numerals. -/
def litd (p : Prop) [Decidable p] : Bool := decide p
theorem litd_t : litd True = true := rfl
theorem litd_f : litd False = false := rfl
theorem nbeq (a b : Nat) : Nat.beq a b = litd (a = b) := by
  unfold litd
  by_cases h : a = b
  · subst h; simp
  · have : Nat.beq a b = false := by
      cases h2 : Nat.beq a b with
      | false => rfl
      | true => exact absurd (Nat.eq_of_beq_eq_true h2) h
    rw [this]; simp [h]
theorem nble (a b : Nat) : Nat.ble a b = litd (a ≤ b) := by
  unfold litd
  by_cases h : a ≤ b
  · rw [Nat.ble_eq_true_of_le h]; simp [h]
  · have : Nat.ble a b = false := by
      cases h2 : Nat.ble a b with
      | false => rfl
      | true => exact absurd (Nat.le_of_ble_eq_true h2) h
    rw [this]; simp [h]
theorem nblt (a b : Nat) : Nat.blt a b = litd (a < b) := nble (a + 1) b
theorem getc (j i : Nat) (v : AV) (r : Env) : Env.get ((j, v) :: r) i = bif Nat.beq i j then v else Env.get r i := rfl
theorem getn (i : Nat) : Env.get [] i = .undef := rfl
theorem setc (j i : Nat) (u v : AV) (r : Env) : Env.set ((j, u) :: r) i v = bif Nat.blt i j then (i, v) :: (j, u) :: r else bif Nat.beq i j then (i, v) :: r else (j, u) :: Env.set r i v := rfl
theorem setn (i : Nat) (v : AV) : Env.set [] i v = [(i, v)] := rfl
theorem delc (j i : Nat) (u : AV) (r : Env) : Env.del ((j, u) :: r) i = bif Nat.beq i j then Env.del r i else (j, u) :: Env.del r i := rfl
theorem deln (i : Nat) : Env.del [] i = [] := rfl
theorem dropn (e : Env) : Env.drop e [] = e := by cases e <;> rfl
theorem dropc (e : Env) (i : Nat) (r : List Nat) : Env.drop e (i :: r) = Env.drop (Env.del e i) r := by cases e <;> rfl
theorem putD_some (e : Env) (i : Nat) (v : AV) : putD e (some i) v = Env.set e i v := rfl
theorem putD_none (e : Env) (v : AV) : putD e none v = e := rfl
theorem ev_t (e : Env) (i : Nat) : Opd.ev e (.t i) = Env.get e i := rfl
theorem ev_c (e : Env) (v : AV) : Opd.ev e (.c v) = v := rfl
theorem evs_nil (e : Env) : evs e [] = [] := rfl
theorem evs_cons (e : Env) (x : Opd) (r : List Opd) : evs e (x :: r) = x.ev e :: evs e r := rfl
theorem ofArgs_nil (i : Nat) : Env.ofArgs i [] = [] := rfl
theorem ofArgs_cons (i : Nat) (v : AV) (r : List AV) : Env.ofArgs i (v :: r) = (i, v) :: Env.ofArgs (i + 1) r := rfl

theorem dec_t {p : Prop} [Decidable p] (h : p) : decide p = true := by simp [h]
theorem dec_f {p : Prop} [Decidable p] (h : ¬ p) : decide p = false := by simp [h]
theorem not_dec {p : Prop} [Decidable p] : (!decide p) = decide (¬ p) := by by_cases h : p <;> simp [h]
theorem and_dec {p q : Prop} [Decidable p] [Decidable q] : (decide p && decide q) = decide (p ∧ q) := by by_cases h : p <;> simp [h]
theorem or_dec {p q : Prop} [Decidable p] [Decidable q] : (decide p || decide q) = decide (p ∨ q) := by by_cases h : p <;> simp [h]
theorem wrap_i64 {n : Int} (h1 : -9223372036854775808 ≤ n) (h2 : n ≤ 9223372036854775807) : IntKind.i64.wrap n = n := IntWalk.i64_in _ (by omega)
theorem wrap_u64 {n : Int} (h1 : 0 ≤ n) (h2 : n < 18446744073709551616) : IntKind.u64.wrap n = n := by
  have : IntKind.u64.wrap n = n % 18446744073709551616 := rfl
  rw [this]; omega
theorem wrap_u8 {n : Int} (h1 : 0 ≤ n) (h2 : n < 256) : IntKind.u8.wrap n = n := by
  have : IntKind.u8.wrap n = n % 256 := rfl
  rw [this]; omega

theorem RunG_t {funs : Nat → Option IFun} {Q : IX → Env → Stack → Prop} {cs : List Fr} {d : Bool} {dr : List Nat} {l : List IOper} {e : Env} {S : Stack} {t : Option Nat} {op : IOp} :
    RunG funs Q cs d dr l e S t op true (.bool true) = RunO funs Q cs d dr (⟨t, op, none⟩ :: l) e S := rfl
theorem RunG_f {funs : Nat → Option IFun} {Q : IX → Env → Stack → Prop} {cs : List Fr} {d : Bool} {dr : List Nat} {l : List IOper} {e : Env} {S : Stack} {t : Option Nat} {op : IOp} :
    RunG funs Q cs d dr l e S t op true (.bool false) = RunO funs Q cs d dr l (putD e t .undef) S := rfl
theorem RunG_ff {funs : Nat → Option IFun} {Q : IX → Env → Stack → Prop} {cs : List Fr} {d : Bool} {dr : List Nat} {l : List IOper} {e : Env} {S : Stack} {t : Option Nat} {op : IOp} :
    RunG funs Q cs d dr l e S t op false (.bool false) = RunO funs Q cs d dr (⟨t, op, none⟩ :: l) e S := rfl
theorem RunG_ft {funs : Nat → Option IFun} {Q : IX → Env → Stack → Prop} {cs : List Fr} {d : Bool} {dr : List Nat} {l : List IOper} {e : Env} {S : Stack} {t : Option Nat} {op : IOp} :
    RunG funs Q cs d dr l e S t op false (.bool true) = RunO funs Q cs d dr l (putD e t .undef) S := rfl

theorem RunG_i {funs : Nat → Option IFun} {Q : IX → Env → Stack → Prop} {cs : List Fr} {d : Bool} {dr : List Nat} {l : List IOper} {e : Env} {S : Stack} {t : Option Nat} {op : IOp} {w : Bool} {p : Prop} [Decidable p]
    (h1 : p → RunG funs Q cs d dr l e S t op w (.bool (decide p))) (h2 : ¬ p → RunG funs Q cs d dr l e S t op w (.bool (decide p))) : RunG funs Q cs d dr l e S t op w (.bool (decide p)) := by
  by_cases h : p
  · exact h1 h
  · exact h2 h
theorem take_snoc {α : Type} (l : List α) (i : Nat) (h : i < l.length) : l.take (i + 1) = l.take i ++ [l[i]] := by
  rw [List.take_add_one, List.getElem?_eq_getElem h]; rfl

theorem mapO_nil {f : AV → Option AV} : mapO f [] = some [] := rfl
def consO : Option AV → Option (List AV) → Option (List AV)
  | some v, some r => some (v :: r)
  | _, _ => none
theorem mapO_c2 {f : AV → Option AV} {v : AV} {r : List AV} : mapO f (v :: r) = consO (f v) (mapO f r) := by
  simp only [mapO]; cases f v <;> cases mapO f r <;> rfl
theorem consO_some {v : AV} {r : List AV} : consO (some v) (some r) = some (v :: r) := rfl

/-- A function's end. -/
def Fin (rs : List IRes) (v : AV) : IX → Env → Stack → Prop := fun x e' S' => (x = .normal ∨ x = .ret) ∧ ∃ H' r, S' = [H'] ∧ resultsA e' [H'] rs = some r ∧ leave H' r = some v
def isUn : AV → Bool
  | .undef => true
  | _ => false
def tmps : List IRes → Option (List Nat)
  | [] => some []
  | .tmp t :: r => (tmps r).map (t :: ·)
  | .cell .. :: _ => none
/-- What a function hands back. -/
def outV : List AV → AV
  | [v] => v
  | vs => .tuple vs
def anyUn : List AV → Bool
  | [] => false
  | v :: r => isUn v || anyUn r
theorem mapO_tmps {e : Env} {H : Heap} : ∀ {rs : List IRes} {ts : List Nat}, tmps rs = some ts → anyUn (ts.map (Env.get e)) = false → mapO (resultA e H) rs = some (ts.map (Env.get e))
  | [], _, h, _ => by cases h; rfl
  | .tmp t :: r, ts, h, hu => by
    simp only [tmps, Option.map_eq_some_iff] at h
    obtain ⟨ts', h1, rfl⟩ := h
    simp only [List.map_cons, anyUn, Bool.or_eq_false_iff] at hu
    simp only [mapO, mapO_tmps h1 hu.2, List.map_cons, resultA]
    cases hg : Env.get e t <;> first | rfl | (rw [hg] at hu; exact absurd hu.1 (by simp [isUn]))
  | .cell .. :: _, _, h, _ => by cases h
theorem Fin_i {rs : List IRes} {ts : List Nat} {v : AV} {x : IX} {e : Env} {H : Heap} (hx : x = .normal ∨ x = .ret) (ht : tmps rs = some ts) (hu : anyUn (ts.map (Env.get e)) = false) (hl : leave H (outV (ts.map (Env.get e))) = some v) : Fin rs v x e [H] := by
  refine ⟨hx, H, outV (ts.map (Env.get e)), rfl, ?_, hl⟩
  simp only [resultsA, mapO_tmps ht hu]
  generalize ts.map (Env.get e) = l
  match l with
  | [] => rfl
  | [a] => rfl
  | a :: b :: r => rfl

theorem leave_f {H : Heap} {v : AV} (h : hfree v = true) : leave H v = some (fg v) := by
  have : frz H 1000 v = some v := by
    unfold frz
    rw [h]; rfl
  unfold leave
  rw [this]
  simp [down, h]
theorem upf_f {v : AV} (h : hfree v = true) : upf v = some (fg v) := by simp [upf, up, h]
theorem hfree_enc {α : Type} [Cel α] (a : α) : hfree (.agg (Cel.enc a)) = true := Cel.free a
theorem fg_enc {α : Type} [Cel α] (a : α) : fg (.agg (Cel.enc a)) = .agg (Cel.enc a) := by simp [fg, Cel.canon]
theorem fg_int (k : IntKind) (n : Int) : fg (.int k n) = .int k n := rfl
theorem fg_bool (b : Bool) : fg (.bool b) = .bool b := rfl
theorem fg_str (b : Str) : fg (.str b) = .str b := rfl
theorem fg_nil0 (nl : Bool) (c : Option Nat) : fg (.imm nl 0 0 c []) = .imm nl 0 0 none [] := rfl
theorem sl_nil {α : Type} [Cel α] (nl : Bool) : sl nl ([] : List α) = .imm nl 0 0 none [] := rfl
theorem gl0 {a0 : AV} {r : List AV} : (a0 :: r)[0]? = some a0 := rfl
theorem gl1 {a0 a1 : AV} {r : List AV} : (a0 :: a1 :: r)[1]? = some a1 := rfl
theorem gl2 {a0 a1 a2 : AV} {r : List AV} : (a0 :: a1 :: a2 :: r)[2]? = some a2 := rfl
theorem gl3 {a0 a1 a2 a3 : AV} {r : List AV} : (a0 :: a1 :: a2 :: a3 :: r)[3]? = some a3 := rfl
theorem gl4 {a0 a1 a2 a3 a4 : AV} {r : List AV} : (a0 :: a1 :: a2 :: a3 :: a4 :: r)[4]? = some a4 := rfl
theorem gl5 {a0 a1 a2 a3 a4 a5 : AV} {r : List AV} : (a0 :: a1 :: a2 :: a3 :: a4 :: a5 :: r)[5]? = some a5 := rfl
theorem gl6 {a0 a1 a2 a3 a4 a5 a6 : AV} {r : List AV} : (a0 :: a1 :: a2 :: a3 :: a4 :: a5 :: a6 :: r)[6]? = some a6 := rfl
theorem gl7 {a0 a1 a2 a3 a4 a5 a6 a7 : AV} {r : List AV} : (a0 :: a1 :: a2 :: a3 :: a4 :: a5 :: a6 :: a7 :: r)[7]? = some a7 := rfl
theorem gl8 {a0 a1 a2 a3 a4 a5 a6 a7 a8 : AV} {r : List AV} : (a0 :: a1 :: a2 :: a3 :: a4 :: a5 :: a6 :: a7 :: a8 :: r)[8]? = some a8 := rfl
theorem gl9 {a0 a1 a2 a3 a4 a5 a6 a7 a8 a9 : AV} {r : List AV} : (a0 :: a1 :: a2 :: a3 :: a4 :: a5 :: a6 :: a7 :: a8 :: a9 :: r)[9]? = some a9 := rfl
theorem gl10 {a0 a1 a2 a3 a4 a5 a6 a7 a8 a9 a10 : AV} {r : List AV} : (a0 :: a1 :: a2 :: a3 :: a4 :: a5 :: a6 :: a7 :: a8 :: a9 :: a10 :: r)[10]? = some a10 := rfl
theorem gl11 {a0 a1 a2 a3 a4 a5 a6 a7 a8 a9 a10 a11 : AV} {r : List AV} : (a0 :: a1 :: a2 :: a3 :: a4 :: a5 :: a6 :: a7 :: a8 :: a9 :: a10 :: a11 :: r)[11]? = some a11 := rfl
theorem one_none (cs : List AV) (off : Nat) : one none cs off = cs[off]? := rfl
theorem one_some (n : Nat) (cs : List AV) (off : Nat) : one (some n) cs off = bif Nat.ble (off + n) cs.length then some (.agg ((cs.drop off).take n)) else none := rfl
theorem v_int (x : Int) : One.v x = .int .i64 x := rfl
theorem v_u8 (x : UInt8) : One.v x = .int .u8 x.toNat := rfl
theorem v_u64 (x : UInt64) : One.v x = .int .u64 x.toNat := rfl
theorem v_bool (x : Bool) : One.v x = .bool x := rfl
theorem v_str (x : Str) : One.v x = .str x := rfl
theorem v_sl {α : Type} [Cel α] (x : Sl α) : One.v x = sl x.nil x.l := rfl

theorem Gives.of {funs : Nat → Option IFun} {g : Nat} {fn : IFun} {args args' : List AV} {v : AV} (hf : funs g = some fn) (hs : fn.shared = false) (hn : Nat.beq args'.length fn.nargs = true) (hu : mapO upf args = some args')
    (h : Run funs (Fin fn.results v) [.c fn.body] .normal (Env.ofArgs 0 args') [[]]) : Gives funs g args v :=
  Gives.by hf hs hn hu h

/-- What a proof proves. -/
abbrev Ty {p : Prop} (_ : p) : Prop := p
/-- The walk's equations. -/
theorem rnL : Ty (And.intro @Run_nil <| And.intro @Run_seq <| And.intro @Run_nop <| And.intro @Run_exit <| And.intro @Run_ret <| And.intro @Run_skip_exit <| And.intro @Run_skip_ret <|
  And.intro @Run_out_normal <| And.intro @Run_out_exit <| And.intro @Run_out_ret <| And.intro @Run_block <| And.intro @Run_cond <| And.intro @Run_ops <| And.intro @RunB_t <| And.intro @RunB_f <|
  And.intro @RunO_nil <| And.intro @RunO_guard <| And.intro @RunO_call <| And.intro @RunO_callp <| And.intro @RunO_calls <| And.intro @mapO_nil <| And.intro @mapO_c2 <| And.intro @consO_some <| And.intro @RunG_t <| And.intro @RunG_f <| And.intro @RunG_ff <| And.intro @RunG_ft <| And.intro @RunV_some <|
  And.intro @Rnd_normal <| And.intro @Rnd_exit <| And.intro @Rnd_ret <|
  And.intro @nbeq <| And.intro @nblt <| And.intro @nble <| And.intro @getc <| And.intro @getn <| And.intro @setc <| And.intro @setn <| And.intro @delc <| And.intro @deln <| And.intro @dropn <| And.intro @dropc <|
  And.intro @putD_some <| And.intro @putD_none <| And.intro @ev_t <| And.intro @ev_c <| And.intro @evs_nil <| And.intro @evs_cons <| And.intro @ofArgs_nil <| And.intro @ofArgs_cons <|
  And.intro @dec_t <| And.intro @dec_f <| And.intro @not_dec <| And.intro @and_dec <| And.intro @or_dec <| And.intro @wrap_i64 <| And.intro @wrap_u64 @wrap_u8) := And.intro @Run_nil <| And.intro @Run_seq <| And.intro @Run_nop <| And.intro @Run_exit <| And.intro @Run_ret <| And.intro @Run_skip_exit <| And.intro @Run_skip_ret <|
  And.intro @Run_out_normal <| And.intro @Run_out_exit <| And.intro @Run_out_ret <| And.intro @Run_block <| And.intro @Run_cond <| And.intro @Run_ops <| And.intro @RunB_t <| And.intro @RunB_f <|
  And.intro @RunO_nil <| And.intro @RunO_guard <| And.intro @RunO_call <| And.intro @RunO_callp <| And.intro @RunO_calls <| And.intro @mapO_nil <| And.intro @mapO_c2 <| And.intro @consO_some <| And.intro @RunG_t <| And.intro @RunG_f <| And.intro @RunG_ff <| And.intro @RunG_ft <| And.intro @RunV_some <|
  And.intro @Rnd_normal <| And.intro @Rnd_exit <| And.intro @Rnd_ret <|
  And.intro @nbeq <| And.intro @nblt <| And.intro @nble <| And.intro @getc <| And.intro @getn <| And.intro @setc <| And.intro @setn <| And.intro @delc <| And.intro @deln <| And.intro @dropn <| And.intro @dropc <|
  And.intro @putD_some <| And.intro @putD_none <| And.intro @ev_t <| And.intro @ev_c <| And.intro @evs_nil <| And.intro @evs_cons <| And.intro @ofArgs_nil <| And.intro @ofArgs_cons <|
  And.intro @dec_t <| And.intro @dec_f <| And.intro @not_dec <| And.intro @and_dec <| And.intro @or_dec <| And.intro @wrap_i64 <| And.intro @wrap_u64 @wrap_u8
/-- Answers of operations. -/
theorem opL : Ty (And.intro @opV_mv <| And.intro @opV_nilck_iptr <| And.intro @opV_nilck_ptr <| And.intro @opV_pick_and <| And.intro @opV_pick_or <| And.intro @opV_pick <| And.intro @opV_not <| And.intro @opV_extr <| And.intro @opV_mkmap <|
  And.intro @opV_alloc <| And.intro @opV_mkif <| And.intro @opV_add <| And.intro @opV_minus <| And.intro @opV_mul <| And.intro @opV_quo <| And.intro @opV_rem <| And.intro @opV_eql <| And.intro @opV_neq <| And.intro @opV_lss <| And.intro @opV_leq <|
  And.intro @opV_gtr <| And.intro @opV_geq <| And.intro @opV_shl <| And.intro @opV_shr <| And.intro @opV_xor <| And.intro @opV_and <| And.intro @opV_or <| And.intro @opV_adds <| And.intro @opV_eqls <| And.intro @opV_neqs <| And.intro @opV_lsss <|
  And.intro @opV_geqs <| And.intro @opV_leqs <| And.intro @opV_gtrs <| And.intro @opV_eqb_f <| And.intro @opV_eqb_t <| And.intro @opV_neg <| And.intro @opV_conv <| And.intro @opV_mvs <| And.intro @opV_lens <| And.intro @opV_max <| And.intro @opV_min <|
  And.intro @opV_ixs <| And.intro @opV_subs <| And.intro @opV_subs_lo <| And.intro @opV_subs_hi <| And.intro @opV_len <| And.intro @opV_isnil <| And.intro @opV_notnil <| And.intro @opV_ixa <| And.intro @opV_load <| And.intro @opV_loadn <|
  And.intro @opV_faddr <| And.intro @opV_load_f <| And.intro @opV_loadn_f <| And.intro @opV_fld <| And.intro @opV_sub <| And.intro @opV_sub_lo <| And.intro @opV_sub_hi <| And.intro @opV_sub_all <| And.intro @opV_bsl0 <| And.intro @opV_bsl1n <|
  And.intro @opV_bsl1 <| And.intro @one_none <| And.intro @gl0 <| And.intro @gl1 <| And.intro @gl2 <| And.intro @gl3 <| And.intro @gl4 <| And.intro @gl5 <| And.intro @gl6 <| And.intro @gl7 <| And.intro @gl8 <| And.intro @gl9 <| And.intro @gl10 <| And.intro @gl11 <| And.intro @one_some <| And.intro @v_int <| And.intro @v_u8 <| And.intro @v_u64 <| And.intro @v_bool <| And.intro @v_str <| @v_sl) := And.intro @opV_mv <| And.intro @opV_nilck_iptr <| And.intro @opV_nilck_ptr <| And.intro @opV_pick_and <| And.intro @opV_pick_or <| And.intro @opV_pick <| And.intro @opV_not <| And.intro @opV_extr <| And.intro @opV_mkmap <|
  And.intro @opV_alloc <| And.intro @opV_mkif <| And.intro @opV_add <| And.intro @opV_minus <| And.intro @opV_mul <| And.intro @opV_quo <| And.intro @opV_rem <| And.intro @opV_eql <| And.intro @opV_neq <| And.intro @opV_lss <| And.intro @opV_leq <|
  And.intro @opV_gtr <| And.intro @opV_geq <| And.intro @opV_shl <| And.intro @opV_shr <| And.intro @opV_xor <| And.intro @opV_and <| And.intro @opV_or <| And.intro @opV_adds <| And.intro @opV_eqls <| And.intro @opV_neqs <| And.intro @opV_lsss <|
  And.intro @opV_geqs <| And.intro @opV_leqs <| And.intro @opV_gtrs <| And.intro @opV_eqb_f <| And.intro @opV_eqb_t <| And.intro @opV_neg <| And.intro @opV_conv <| And.intro @opV_mvs <| And.intro @opV_lens <| And.intro @opV_max <| And.intro @opV_min <|
  And.intro @opV_ixs <| And.intro @opV_subs <| And.intro @opV_subs_lo <| And.intro @opV_subs_hi <| And.intro @opV_len <| And.intro @opV_isnil <| And.intro @opV_notnil <| And.intro @opV_ixa <| And.intro @opV_load <| And.intro @opV_loadn <|
  And.intro @opV_faddr <| And.intro @opV_load_f <| And.intro @opV_loadn_f <| And.intro @opV_fld <| And.intro @opV_sub <| And.intro @opV_sub_lo <| And.intro @opV_sub_hi <| And.intro @opV_sub_all <| And.intro @opV_bsl0 <| And.intro @opV_bsl1n <|
  And.intro @opV_bsl1 <| And.intro @one_none <| And.intro @gl0 <| And.intro @gl1 <| And.intro @gl2 <| And.intro @gl3 <| And.intro @gl4 <| And.intro @gl5 <| And.intro @gl6 <| And.intro @gl7 <| And.intro @gl8 <| And.intro @gl9 <| And.intro @gl10 <| And.intro @gl11 <| And.intro @one_some <| And.intro @v_int <| And.intro @v_u8 <| And.intro @v_u64 <| And.intro @v_bool <| And.intro @v_str <| @v_sl
theorem leave_int {H : Heap} (k : IntKind) (n : Int) : leave H (.int k n) = some (.int k n) := leave_f rfl
theorem leave_bool {H : Heap} (b : Bool) : leave H (.bool b) = some (.bool b) := leave_f rfl
theorem leave_str {H : Heap} (b : Str) : leave H (.str b) = some (.str b) := leave_f rfl
theorem leave_sl {H : Heap} {α : Type} [Cel α] (nl : Bool) (l : List α) : leave H (sl nl l) = some (sl nl l) := by rw [leave_f (sl_free _ _), sl_canon]
theorem leave_enc {H : Heap} {α : Type} [Cel α] (a : α) : leave H (.agg (Cel.enc a)) = some (.agg (Cel.enc a)) := by rw [leave_f (hfree_enc _), fg_enc]
theorem leave_nil0 {H : Heap} (nl : Bool) (c : Option Nat) : leave H (.imm nl 0 0 c []) = some (.imm nl 0 0 none []) := leave_f rfl
/-- Values that touch no memory, and tell no capacities. -/
class FreeV (v : AV) : Prop where
  free : hfree v = true
  fg : fg v = v
instance (k : IntKind) (n : Int) : FreeV (.int k n) := ⟨rfl, rfl⟩
instance (b : Bool) : FreeV (.bool b) := ⟨rfl, rfl⟩
instance (b : Str) : FreeV (.str b) := ⟨rfl, rfl⟩
instance : FreeV .nilptr := ⟨rfl, rfl⟩
instance : FreeV .nilFunc := ⟨rfl, rfl⟩
instance : FreeV .nilIface := ⟨rfl, rfl⟩
instance : FreeV .nilmap := ⟨rfl, rfl⟩
instance (nl : Bool) : FreeV (.imm nl 0 0 none []) := ⟨rfl, rfl⟩
instance {α : Type} [Cel α] (nl : Bool) (l : List α) : FreeV (sl nl l) := ⟨sl_free _ _, sl_canon _ _⟩
instance {α : Type} [Cel α] (a : α) : FreeV (.agg (Cel.enc a)) := ⟨hfree_enc _, fg_enc _⟩
theorem leave_v {H : Heap} {v : AV} [h : FreeV v] : leave H v = some v := by rw [leave_f h.free, h.fg]
theorem leave_t2 {H : Heap} {a b : AV} [h : FreeV a] [h2 : FreeV b] : leave H (.tuple [a, b]) = some (.tuple [a, b]) := by
  rw [leave_f (by simp [hfree, hfrees, h.free, h2.free])]; simp [fg, fgs, h.fg, h2.fg]
theorem leave_t3 {H : Heap} {a b c : AV} [h : FreeV a] [h2 : FreeV b] [h3 : FreeV c] : leave H (.tuple [a, b, c]) = some (.tuple [a, b, c]) := by
  rw [leave_f (by simp [hfree, hfrees, h.free, h2.free, h3.free])]; simp [fg, fgs, h.fg, h2.fg, h3.fg]
theorem leave_t4 {H : Heap} {a b c d : AV} [h : FreeV a] [h2 : FreeV b] [h3 : FreeV c] [h4 : FreeV d] : leave H (.tuple [a, b, c, d]) = some (.tuple [a, b, c, d]) := by
  rw [leave_f (by simp [hfree, hfrees, h.free, h2.free, h3.free, h4.free])]; simp [fg, fgs, h.fg, h2.fg, h3.fg, h4.fg]
theorem upf_v {v : AV} [h : FreeV v] : upf v = some v := by rw [upf_f h.free, h.fg]
theorem outV_1 (v : AV) : outV [v] = v := rfl
theorem outV_2 (v w : AV) : outV [v, w] = .tuple [v, w] := rfl
theorem outV_3 (v w x : AV) : outV [v, w, x] = .tuple [v, w, x] := rfl
theorem outV_0 : outV [] = .tuple [] := rfl
theorem anyUn_nil : anyUn [] = false := rfl
theorem anyUn_int (k : IntKind) (n : Int) (r : List AV) : anyUn (.int k n :: r) = anyUn r := rfl
theorem anyUn_bool (b : Bool) (r : List AV) : anyUn (.bool b :: r) = anyUn r := rfl
theorem anyUn_str (b : Str) (r : List AV) : anyUn (.str b :: r) = anyUn r := rfl
theorem anyUn_agg (b : List AV) (r : List AV) : anyUn (.agg b :: r) = anyUn r := rfl
theorem anyUn_imm (n : Bool) (a b : Nat) (c : Option Nat) (d r : List AV) : anyUn (.imm n a b c d :: r) = anyUn r := rfl
theorem anyUn_ref (a b c d e f : Nat) (g : Bool) (r : List AV) : anyUn (.ref a b c d e f g :: r) = anyUn r := rfl
theorem anyUn_ptr (a b c : Nat) (r : List AV) : anyUn (.ptr a b c :: r) = anyUn r := rfl
theorem anyUn_nilptr (r : List AV) : anyUn (.nilptr :: r) = anyUn r := rfl
theorem anyUn_iptr (a : List AV) (b : Nat) (r : List AV) : anyUn (.iptr a b :: r) = anyUn r := rfl
theorem anyUn_sl {α : Type} [Cel α] (nl : Bool) (l : List α) (r : List AV) : anyUn (sl nl l :: r) = anyUn r := rfl
theorem anyUn_bv {α : Type} [Cel α] (n : Nat) (nl : Bool) (l : List α) (r : List AV) : anyUn (bv n nl l :: r) = anyUn r := by cases l <;> rfl
theorem outL : Ty (And.intro @leave_int <| And.intro @leave_bool <| And.intro @leave_str <| And.intro @leave_sl <| And.intro @leave_enc <| And.intro @leave_nil0 <| And.intro @leave_v <| And.intro @leave_t2 <| And.intro @leave_t3 <| And.intro @leave_t4 <| And.intro @leave_bv <| And.intro @outV_1 <| And.intro @outV_2 <| And.intro @outV_3 <| And.intro @outV_0 <|
  And.intro @anyUn_nil <| And.intro @anyUn_int <| And.intro @anyUn_bool <| And.intro @anyUn_str <| And.intro @anyUn_agg <| And.intro @anyUn_imm <| And.intro @anyUn_ref <| And.intro @anyUn_ptr <| And.intro @anyUn_nilptr <| And.intro @anyUn_iptr <| And.intro @anyUn_sl <| @anyUn_bv) := And.intro @leave_int <| And.intro @leave_bool <| And.intro @leave_str <| And.intro @leave_sl <| And.intro @leave_enc <| And.intro @leave_nil0 <| And.intro @leave_v <| And.intro @leave_t2 <| And.intro @leave_t3 <| And.intro @leave_t4 <| And.intro @leave_bv <| And.intro @outV_1 <| And.intro @outV_2 <| And.intro @outV_3 <| And.intro @outV_0 <|
  And.intro @anyUn_nil <| And.intro @anyUn_int <| And.intro @anyUn_bool <| And.intro @anyUn_str <| And.intro @anyUn_agg <| And.intro @anyUn_imm <| And.intro @anyUn_ref <| And.intro @anyUn_ptr <| And.intro @anyUn_nilptr <| And.intro @anyUn_iptr <| And.intro @anyUn_sl <| @anyUn_bv
/-- Operations. -/
theorem ruL : Ty (And.intro @RunO_mv <| And.intro @RunO_pick <| And.intro @RunO_box <| And.intro @RunO_load <| And.intro @RunO_store <| And.intro @RunO_nilck <| And.intro @RunO_bin <| And.intro @RunO_eqb <| And.intro @RunO_eqn <| And.intro @RunO_eqa <| And.intro @RunO_neg <| And.intro @RunO_inv <| And.intro @RunO_not <| And.intro @RunO_conv <| And.intro @RunO_bytes <| And.intro @RunO_text <| And.intro @RunO_mvs <| And.intro @RunO_mkif <| And.intro @RunO_mksl <| And.intro @RunO_sub <| And.intro @RunO_subs <| And.intro @RunO_suba <| And.intro @RunO_faddr <| And.intro @RunO_fld <| And.intro @RunO_ixa <| And.intro @RunO_ixaa <| And.intro @RunO_ixs <| And.intro @RunO_ixv <| And.intro @RunO_look <| And.intro @RunO_mapup <| And.intro @RunO_extr <| And.intro @RunO_len <| And.intro @RunO_lens <| And.intro @RunO_lenm <| And.intro @RunO_cap <| And.intro @RunO_append <| And.intro @RunO_copy <| And.intro @RunO_clearm <| And.intro @RunO_clears <| And.intro @RunO_del <| And.intro @RunO_minmax <| And.intro @RunO_build <| And.intro @RunO_bsl <| And.intro @RunO_mkfn <| And.intro @RunO_ment <| And.intro @RunO_mentst <| And.intro @RunO_alloc <| @RunO_mkmap) := And.intro @RunO_mv <| And.intro @RunO_pick <| And.intro @RunO_box <| And.intro @RunO_load <| And.intro @RunO_store <| And.intro @RunO_nilck <| And.intro @RunO_bin <| And.intro @RunO_eqb <| And.intro @RunO_eqn <| And.intro @RunO_eqa <| And.intro @RunO_neg <| And.intro @RunO_inv <| And.intro @RunO_not <| And.intro @RunO_conv <| And.intro @RunO_bytes <| And.intro @RunO_text <| And.intro @RunO_mvs <| And.intro @RunO_mkif <| And.intro @RunO_mksl <| And.intro @RunO_sub <| And.intro @RunO_subs <| And.intro @RunO_suba <| And.intro @RunO_faddr <| And.intro @RunO_fld <| And.intro @RunO_ixa <| And.intro @RunO_ixaa <| And.intro @RunO_ixs <| And.intro @RunO_ixv <| And.intro @RunO_look <| And.intro @RunO_mapup <| And.intro @RunO_extr <| And.intro @RunO_len <| And.intro @RunO_lens <| And.intro @RunO_lenm <| And.intro @RunO_cap <| And.intro @RunO_append <| And.intro @RunO_copy <| And.intro @RunO_clearm <| And.intro @RunO_clears <| And.intro @RunO_del <| And.intro @RunO_minmax <| And.intro @RunO_build <| And.intro @RunO_bsl <| And.intro @RunO_mkfn <| And.intro @RunO_ment <| And.intro @RunO_mentst <| And.intro @RunO_alloc <| @RunO_mkmap
/-- Values that go in and out. -/
theorem ioL : Ty (And.intro @hfree_enc <| And.intro @fg_enc <| And.intro @fg_int <| And.intro @fg_bool <| And.intro @fg_str <| And.intro @sl_free <| And.intro @upf_v <| @sl_canon) := And.intro @hfree_enc <| And.intro @fg_enc <| And.intro @fg_int <| And.intro @fg_bool <| And.intro @fg_str <| And.intro @sl_free <| And.intro @upf_v <| @sl_canon

theorem nat_succ (i : Nat) : (i : Int) + 1 = ((i + 1 : Nat) : Int) := rfl
theorem nat_add (a b : Nat) : (a : Int) + (b : Int) = ((a + b : Nat) : Int) := rfl
theorem nat_mul (a b : Nat) : (a : Int) * (b : Int) = ((a * b : Nat) : Int) := rfl
theorem nat_max (a b : Nat) : max (a : Int) (b : Int) = ((max a b : Nat) : Int) := by omega
theorem nat_min (a b : Nat) : min (a : Int) (b : Int) = ((min a b : Nat) : Int) := by omega
theorem natL : Ty (And.intro @nat_succ <| And.intro @nat_add <| And.intro @nat_mul <| And.intro @nat_max <| @nat_min) := And.intro @nat_succ <| And.intro @nat_add <| And.intro @nat_mul <| And.intro @nat_max <| @nat_min

end Go.AS
