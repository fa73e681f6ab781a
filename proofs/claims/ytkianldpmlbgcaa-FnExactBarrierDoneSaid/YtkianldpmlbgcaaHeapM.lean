/-
  Which function a call through the heap's interface leads to, and with which receiver. No condition.
-/
import Derived.Test.YtkianldpmlbgcaaBarrier
import Derived.Handy
namespace Go.Proofs.Ytkianldpmlbgcaa
open Go.ChangeShapes Go.WideShapes Go.ChangeAt Go.RowKit
theorem meth_len_ (fuel h : Nat) (w : World) : (method (fuel + 1) 64 (.pointer (some ⟨h, 0, none⟩)) "Len").run Try.prog w = (load ⟨h, 0, none⟩ >>= fun v => pure (58, v)).run Try.prog w := by kernel_rfl
@[go_sem] theorem meth_len (fuel h : Nat) (v : Value) (w : World) (hc : w.cell? ⟨h, 0, none⟩ = some v) : (method (fuel + 1) 64 (.pointer (some ⟨h, 0, none⟩)) "Len").run Try.prog w = .ok (58, v) w := by
  rw [meth_len_]
  simp [go_sem, hc]
theorem meth_less_ (fuel h : Nat) (w : World) : (method (fuel + 1) 64 (.pointer (some ⟨h, 0, none⟩)) "Less").run Try.prog w = (load ⟨h, 0, none⟩ >>= fun v => pure (77, v)).run Try.prog w := by kernel_rfl
@[go_sem] theorem meth_less (fuel h : Nat) (v : Value) (w : World) (hc : w.cell? ⟨h, 0, none⟩ = some v) : (method (fuel + 1) 64 (.pointer (some ⟨h, 0, none⟩)) "Less").run Try.prog w = .ok (77, v) w := by
  rw [meth_less_]
  simp [go_sem, hc]
theorem meth_swap_ (fuel h : Nat) (w : World) : (method (fuel + 1) 64 (.pointer (some ⟨h, 0, none⟩)) "Swap").run Try.prog w = (load ⟨h, 0, none⟩ >>= fun v => pure (80, v)).run Try.prog w := by kernel_rfl
@[go_sem] theorem meth_swap (fuel h : Nat) (v : Value) (w : World) (hc : w.cell? ⟨h, 0, none⟩ = some v) : (method (fuel + 1) 64 (.pointer (some ⟨h, 0, none⟩)) "Swap").run Try.prog w = .ok (80, v) w := by
  rw [meth_swap_]
  simp [go_sem, hc]
@[go_sem] theorem meth_push (fuel h : Nat) (w : World) : (method (fuel + 1) 64 (.pointer (some ⟨h, 0, none⟩)) "Push").run Try.prog w = .ok (79, .pointer (some ⟨h, 0, none⟩)) w := by kernel_rfl
@[go_sem] theorem meth_pop (fuel h : Nat) (w : World) : (method (fuel + 1) 64 (.pointer (some ⟨h, 0, none⟩)) "Pop").run Try.prog w = .ok (78, .pointer (some ⟨h, 0, none⟩)) w := by kernel_rfl
end Go.Proofs.Ytkianldpmlbgcaa
