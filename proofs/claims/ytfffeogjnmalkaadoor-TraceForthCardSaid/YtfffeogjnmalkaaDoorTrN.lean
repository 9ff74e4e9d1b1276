import Derived.Test.YtfffeogjnmalkaaDoorRows
import Derived.MakeChecks
import Derived.Lay
import Derived.Lib.LaidTab
import Derived.Stop.LaidErr
import Derived.Test.YtfffeogjnmalkaaDoorNb4
import Derived.Test.YtfffeogjnmalkaaDoorLt0
set_option linter.all false
/-
  The functions of Go's library that the walks are told of: what they do, in a world that has their tables. By an AI agent.
-/
namespace Go.AS.Tr
open Go Go.AS Go.Proofs Go.AS.Nb Go.AS.Ly
open Go.Proofs.YtfffeogjnmalkaaDoor
set_option maxRecDepth 100000
def natL : List (Nat × NatK) := [(21, .wstr 46 5), (22, .bstr 46 5), (42, .fields), (35, .itoa), (34, .join), (39, .split), (26, .cut)]
theorem nats {W : World} {m : Int} (h1 : Lib.TabIs Tryd.prog W "internal/strconv.uint64pow10" .u64 Lib.pow10Tab) (h2 : Lib.TabIs Tryd.prog W "strings.asciiSpace" .u8 Lib.asciiSpaceTab) (h3 : W.cell? ⟨ren.g 1, 0, none⟩ = some (.int .i64 m)) :
    NatsOK Tryd.prog (fun b => W.heap[b]?) natL :=
  NatsOK.cons (nat_wstr lays166 bx) (NatsOK.cons (nat_bstr lays169 bx) (NatsOK.cons (nat_fields lays157 h2) (NatsOK.cons (nat_itoa lays171 h1) (NatsOK.cons (Go.AS.Nb.nat_join lays156 bx) (NatsOK.cons (nat_split lays146 h3) (NatsOK.cons (nat_cut lays145 h3) NatsOK.nil))))))
def laidL : List (String × DataW Unit) := Rows.traceCountsRow.laid
theorem laidH (W : World) : laidMetH Tryd.prog laidL W = laidMet Tryd.prog laidL W := MakeChecks.laidMetH_plain _ _ _ (by kernel_rfl)
theorem natsH {W : World} (hL : laidMetH Tryd.prog laidL W) (hsh : W.ShapedOpen Tryd.prog) : NatsOK Tryd.prog (fun b => W.heap[b]?) natL := by
  rw [laidH] at hL
  obtain ⟨m, hm⟩ := lays146.s1_3 W hsh
  have t2 := hL.tail.tail
  have t5 := t2.tail.tail.tail
  refine nats ?_ ?_ hm
  · exact Lib.tabIs_of_head (rest := _) (g := 3) (t := 128) (e := 106) (n := 20) (by kernel_rfl) (by kernel_rfl) Tryd.underlying128 Tryd.underlying106 (by kernel_rfl) (by kernel_rfl) t2
  · exact Lib.tabIs_of_head (rest := _) (g := 0) (t := 89) (e := 5) (n := 256) (by kernel_rfl) (by kernel_rfl) Tryd.underlying89 Tryd.underlying5 (by kernel_rfl) (by kernel_rfl) t5
theorem laid_met (os : Os) (args : Array Value) : laidMetH Tryd.prog laidL ((World.laidAll Tryd.prog os laidL).forCall (fun _ _ => 0) ⟨#[], args, []⟩).memory := by
  rw [laidH]
  exact laidMet_laidAll _ (by kernel_rfl) (by kernel_rfl)
theorem laid_shaped (os : Os) (args : Array Value) : ((World.laidAll Tryd.prog os laidL).forCall (fun _ _ => 0) ⟨#[], args, []⟩).Shaped Tryd.prog :=
  World.shaped_of_ZipB (by kernel_rfl) (by kernel_rfl)
end Go.AS.Tr
