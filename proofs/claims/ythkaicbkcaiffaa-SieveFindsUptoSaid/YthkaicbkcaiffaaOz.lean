import Derived.Test.YthkaicbkcaiffaaOw
import Derived.Outline
namespace Go.Proofs.Ythkaicbkcaiffaa
open Go.RowKit

set_option maxHeartbeats 400000 in
theorem overlap_zero (ao : Option Addr) (cap : Nat) (wd : Int) (w : World) : Calls Try.prog 14 #[.slice ao 0 cap, .int .i64 wd] w fun e w' => e = .returned (.int .i64 (-1)) ∧ w' = w := by
  go_enter Try.func14, Try.ntmps14
  go_wp2
  refine wp_loop_rounds 1 ?_
  rw [rounds_succ]
  go_wp2
  go_ret
  exact ⟨rfl, rfl⟩
theorem refOverlap_zero (ao : Option Addr) (cap : Nat) (wd : Int) (w : World) : Calls Try.prog 15 #[.slice ao 0 cap, .int .i64 wd] w fun e w' => e = .returned (.int .i64 (-1)) ∧ w' = w := by
  go_enter Try.func15, Try.ntmps15
  go_wp2
  refine wp_loop_rounds 1 ?_
  rw [rounds_succ]
  go_wp2
  go_ret
  exact ⟨rfl, rfl⟩
theorem sameHits_zero (ao bo : Option Addr) (c c' : Nat) (w : World) : Calls Try.prog 16 #[.slice ao 0 c, .slice bo 0 c'] w fun e w' => e = .returned (.bool true) ∧ w' = w := by
  go_enter Try.func16, Try.ntmps16
  go_wp2
  refine wp_loop_rounds 1 ?_
  rw [rounds_succ]
  go_wp2
  go_ret
  exact ⟨rfl, rfl⟩

theorem append_none (ao : Option Addr) (cap : Nat) (w : World) : (Builtin.append_ #[22, 22] 22 #[.slice none 0 0, .slice ao 0 cap]).run Try.prog w = .ok (.slice none 0 0) w := by
  cases ao <;> simp [Builtin.append_, go_sem, Builtin.lenOf, Builtin.firstCells]

theorem wpList_append_run {P : Program} {w : World} {ops : Array Oper} {rest : List Oper} {o : Oper} {a : Act} {Q : Exit → Act → World → Prop} (hgd : o.guard = none) (s x : Operand) (ts : Array TypeId)
    (ho : o.op = .call { callee := .builtin .append, args := #[s, x], argTypes := ts }) (u y v' : Value) (w' : World) (hs : a.eval s = u) (hx : a.eval x = y)
    (hrun : (Builtin.append_ ts o.type #[u, y]).run P w = .ok v' w') (h : wpList P ops Q rest (a.put o.dst v') w') : wpList P ops Q (o :: rest) a w := by
  refine wpList_plain hgd fun K hK => ?_
  unfold Oper.wp
  rw [show execOp a.eval o = builtin .append ts o.type (#[s, x].map fun | .const _ => true | _ => false) (#[s, x].map a.eval) by unfold execOp; rw [ho]; rfl]
  simp only [List.map_toArray, List.map_cons, List.map_nil, hs, hx]
  rw [show builtin .append ts o.type _ #[u, y] = (do pure (.value (← Builtin.append_ ts o.type #[u, y]))) from rfl, Sem.run_bind, hrun]
  exact hK _ _ h
theorem law_zero (ao : Option Addr) (cap : Nat) (wd : Int) (w : World) :
    Calls Try.prog 3 #[.slice ao 0 cap, .int .i64 wd] w fun e w' => e = .returned (.bool true) ∧ Below w.heap.size w w' := by
  have ha := append_none ao cap
  go_enter Try.func3, Try.ntmps3
  go_wp2_with (first
    | (at_builtin; refine wpList_append_run rfl (.tmp 7) (.tmp 8) #[22, 22] rfl _ _ _ _ rfl rfl (ha _) ?_)
    | (go_at_call 14; refine (overlap_zero _ _ _ _).mono ?_; rintro e w2 ⟨rfl, rfl⟩)
    | (go_at_call 15; refine (refOverlap_zero _ _ _ _).mono ?_; rintro e w2 ⟨rfl, rfl⟩)
    | (go_at_call 16; refine (sameHits_zero _ _ _ _ _).mono ?_; rintro e w2 ⟨rfl, rfl⟩))
  go_ret
  exact ⟨rfl, Below.refl _ _⟩
end Go.Proofs.Ythkaicbkcaiffaa
