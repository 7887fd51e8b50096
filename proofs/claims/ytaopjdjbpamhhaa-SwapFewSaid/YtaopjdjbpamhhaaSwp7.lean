/- Proved: contract of the talk of a mirror (Mirror's closure) at every span. Conditions: what TalkIn says. -/
import Derived.Test.YtaopjdjbpamhhaaSwp6
namespace Go.Proofs.Ytaopjdjbpamhhaa
open Go Go.RowKit
set_option linter.unusedVariables false
set_option linter.unusedSimpArgs false

theorem swMirror_1_calls {seed : Int} {u : Tr} {c : TK} (hg : Srt u.pairs) (hu : u.size ≤ 1000000) (hcL : c.L.length ≤ 1000000) : ∀ (t : Tr), t.ok → ∀ (R : Nat → Prop) (vo vg vc : Value) (w : World) (ol : List Msg) (gl : List Bts) (cl : List (Bts × Bts)) (lo hi : Value) (low high : Bts) (bd : Bool) (at' : Int), TalkIn seed u c R vo vg vc w ol gl cl → BV R w lo low → BV R w hi high → NodesAt seed c.L t at' → ol.length + 2 * t.size + 1 ≤ 1000000 → gl.length + (t.size + 1) * 1000000 ≤ 1000000000000 → cl.length + t.size ≤ 1000000 →
      Calls Try.prog 117 #[.agg #[lo, hi, .bool bd], .int .i64 at', bp c.q2, bp c.q3, bp c.q4, bp c.q5, bp c.q6, bp c.q7] w (TalkPost seed u c R vo vg vc w (ol ++ talk seed u t low high bd) (gl ++ gones seed u t low high bd) (cl ++ comes seed u t low high bd))
  | .nil, _, R, vo, vg, vc, w, ol, gl, cl, lo, hi, low, high, bd, at', h, h1, h2, hn, b1, b2, b3 => by
    have hn : at' = -1 := hn
    subst hn
    exact swMirror_1_nil hg hu h h1 h2 (Nat.le_trans (Nat.le_trans (Nat.le_add_right _ _) (Nat.le_add_right _ _)) b1) (Nat.le_trans (Nat.le_add_right _ _) b2)
  | .nd l k v r, ok, R, vo, vg, vc, w, ol, gl, cl, lo, hi, low, high, bd, at', h, h1, h2, hn, b1, b2, b3 =>
    swMirror_1_nd hg hu ok.2.1 hcL (swMirror_1_calls hg hu hcL l ok.1) (swMirror_1_calls hg hu hcL r ok.2.2) h h1 h2 hn b1 b2 b3
end Go.Proofs.Ytaopjdjbpamhhaa
