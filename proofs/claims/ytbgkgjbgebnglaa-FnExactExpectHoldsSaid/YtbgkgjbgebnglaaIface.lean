/-
  Type assertions on expected versions: what each yields, by the program's tables. No condition.
-/
import Derived.Test.YtbgkgjbgebnglaaBase
namespace Go.Proofs.Ytbgkgjbgebnglaa
@[go_sem] theorem as_nil_any (w : World) : (Instr.typeAssert .nilIface 84 109 true).run Try.prog w = .ok (.tuple #[.agg #[], .bool false]) w := by kernel_rfl
@[go_sem] theorem as_any_any (v : Value) (w : World) : (Instr.typeAssert (.iface 109 v) 84 109 true).run Try.prog w = .ok (.tuple #[v, .bool true]) w := by kernel_rfl
@[go_sem] theorem as_none_any (v : Value) (w : World) : (Instr.typeAssert (.iface 110 v) 84 109 true).run Try.prog w = .ok (.tuple #[.agg #[], .bool false]) w := by kernel_rfl
@[go_sem] theorem as_last_any (v : Value) (w : World) : (Instr.typeAssert (.iface 111 v) 84 109 true).run Try.prog w = .ok (.tuple #[.agg #[], .bool false]) w := by kernel_rfl
@[go_sem] theorem as_nil_none (w : World) : (Instr.typeAssert .nilIface 84 110 true).run Try.prog w = .ok (.tuple #[.agg #[], .bool false]) w := by kernel_rfl
@[go_sem] theorem as_any_none (v : Value) (w : World) : (Instr.typeAssert (.iface 109 v) 84 110 true).run Try.prog w = .ok (.tuple #[.agg #[], .bool false]) w := by kernel_rfl
@[go_sem] theorem as_none_none (v : Value) (w : World) : (Instr.typeAssert (.iface 110 v) 84 110 true).run Try.prog w = .ok (.tuple #[v, .bool true]) w := by kernel_rfl
@[go_sem] theorem as_last_none (v : Value) (w : World) : (Instr.typeAssert (.iface 111 v) 84 110 true).run Try.prog w = .ok (.tuple #[.agg #[], .bool false]) w := by kernel_rfl
@[go_sem] theorem as_nil_last (w : World) : (Instr.typeAssert .nilIface 84 111 true).run Try.prog w = .ok (.tuple #[.int .i64 0, .bool false]) w := by kernel_rfl
@[go_sem] theorem as_any_last (v : Value) (w : World) : (Instr.typeAssert (.iface 109 v) 84 111 true).run Try.prog w = .ok (.tuple #[.int .i64 0, .bool false]) w := by kernel_rfl
@[go_sem] theorem as_none_last (v : Value) (w : World) : (Instr.typeAssert (.iface 110 v) 84 111 true).run Try.prog w = .ok (.tuple #[.int .i64 0, .bool false]) w := by kernel_rfl
@[go_sem] theorem as_last_last (v : Value) (w : World) : (Instr.typeAssert (.iface 111 v) 84 111 true).run Try.prog w = .ok (.tuple #[v, .bool true]) w := by kernel_rfl
end Go.Proofs.Ytbgkgjbgebnglaa
