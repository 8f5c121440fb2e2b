/- The law 'LikeJoins', from its arguments' shapes. -/
import Derived.Test.YtehkmfmahgabmaaLikeJoinsLaw
import Derived.Test.YtehkmfmahgabmaaSimRow
namespace Go.Proofs.Ytehkmfmahgabmaa
set_option autoImplicit false
def Shapes.likeJoins0 : Sh := .str
def Shapes.likeJoins1 : Sh := .str
def Shapes.likeJoins2 : Sh := .p .str (.p .str .u)
theorem LikeJoins_row (a0 : AV) (h0 : ArgOk false Shapes.likeJoins0 a0) (a1 : AV) (h1 : ArgOk false Shapes.likeJoins1 a1) (a2 : AV) (h2 : ArgOk true Shapes.likeJoins2 a2) :
    ACalls PG 3 [a0, a1, a2] [] fun r _ => r = .bool true := by
  obtain ⟨p, e0, _⟩ := h0
  obtain ⟨q, e1, _⟩ := h1
  obtain ⟨vs, rfl, x, y, rfl, ⟨k0, rfl, _⟩, x2, y2, rfl, ⟨k1, rfl, _⟩, rfl⟩ := h2
  simp only [List.cons.injEq, and_true] at e0 e1
  subst e0; subst e1
  exact LikeJoins_spec p q k0 k1
end Go.Proofs.Ytehkmfmahgabmaa
