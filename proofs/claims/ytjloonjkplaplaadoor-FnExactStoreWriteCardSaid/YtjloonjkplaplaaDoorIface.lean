/-
  Type assertions on expected versions: what each yields, by the program's tables. No condition.
-/
import Derived.Test.YtjloonjkplaplaaDoorBase
namespace Go.Proofs.YtjloonjkplaplaaDoor
@[go_sem] theorem as_nil_any (w : World) : (Instr.typeAssert .nilIface 84 97 true).run Tryd.prog w = .ok (.tuple #[.agg #[], .bool false]) w := by kernel_rfl
@[go_sem] theorem as_any_any (v : Value) (w : World) : (Instr.typeAssert (.iface 97 v) 84 97 true).run Tryd.prog w = .ok (.tuple #[v, .bool true]) w := by kernel_rfl
@[go_sem] theorem as_none_any (v : Value) (w : World) : (Instr.typeAssert (.iface 98 v) 84 97 true).run Tryd.prog w = .ok (.tuple #[.agg #[], .bool false]) w := by kernel_rfl
@[go_sem] theorem as_last_any (v : Value) (w : World) : (Instr.typeAssert (.iface 99 v) 84 97 true).run Tryd.prog w = .ok (.tuple #[.agg #[], .bool false]) w := by kernel_rfl
@[go_sem] theorem as_nil_none (w : World) : (Instr.typeAssert .nilIface 84 98 true).run Tryd.prog w = .ok (.tuple #[.agg #[], .bool false]) w := by kernel_rfl
@[go_sem] theorem as_any_none (v : Value) (w : World) : (Instr.typeAssert (.iface 97 v) 84 98 true).run Tryd.prog w = .ok (.tuple #[.agg #[], .bool false]) w := by kernel_rfl
@[go_sem] theorem as_none_none (v : Value) (w : World) : (Instr.typeAssert (.iface 98 v) 84 98 true).run Tryd.prog w = .ok (.tuple #[v, .bool true]) w := by kernel_rfl
@[go_sem] theorem as_last_none (v : Value) (w : World) : (Instr.typeAssert (.iface 99 v) 84 98 true).run Tryd.prog w = .ok (.tuple #[.agg #[], .bool false]) w := by kernel_rfl
@[go_sem] theorem as_nil_last (w : World) : (Instr.typeAssert .nilIface 84 99 true).run Tryd.prog w = .ok (.tuple #[.int .i64 0, .bool false]) w := by kernel_rfl
@[go_sem] theorem as_any_last (v : Value) (w : World) : (Instr.typeAssert (.iface 97 v) 84 99 true).run Tryd.prog w = .ok (.tuple #[.int .i64 0, .bool false]) w := by kernel_rfl
@[go_sem] theorem as_none_last (v : Value) (w : World) : (Instr.typeAssert (.iface 98 v) 84 99 true).run Tryd.prog w = .ok (.tuple #[.int .i64 0, .bool false]) w := by kernel_rfl
@[go_sem] theorem as_last_last (v : Value) (w : World) : (Instr.typeAssert (.iface 99 v) 84 99 true).run Tryd.prog w = .ok (.tuple #[v, .bool true]) w := by kernel_rfl
end Go.Proofs.YtjloonjkplaplaaDoor
