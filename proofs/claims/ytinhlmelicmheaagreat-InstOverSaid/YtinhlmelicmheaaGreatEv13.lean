import Derived.Test.YtinhlmelicmheaaGreatEv12
import Derived.Laws.AppendOwn
namespace Go.Ev
open Go

section
variable {P : Program} {N : Nat} {ρ : Ren} {σ : Heap} {w : World} {E : Operand → Option AV} {o : Oper}

/-- What is appended: how many elements, which cells. -/
def AppX (P : Program) (w : World) (xt : TypeId) (x : Value) (i : TypeInfo) (zc : Array Value) (n : Nat) (news : List Value) : Prop :=
  (∃ d, P.underlying xt = some d ∧ (∀ k, d ≠ .int k) ∧ (∀ W, (Builtin.lenOf x).run P W = .ok n W) ∧
    ∀ W : World, (∀ a, W.cell? a = w.cell? a) → (Builtin.firstCells i.size n x).run P W = .ok news.toArray W) ∨
  (∃ k k', P.underlying xt = some (.int k) ∧ x = .int k' (n : Int) ∧ n ≤ 1048576 ∧ n * i.bytes ≤ 281474976710656 ∧
    news.toArray = (if n * i.size = 0 then #[] else Builtin.zeroCells zc n))

theorem run_app_room [Sy] {st xt ty e : TypeId} {i : TypeInfo} {z : Value} {x : Value} {n : Nat} {news : List Value} (ht : P.underlying st = some (.slice e)) (hi : P.info? e = some i) (hz : i.zero = some z)
    (hx : AppX P w xt x i z.cells n news) (a : Addr) (sLen sCap : Nat) (hroom : sLen + n ≤ sCap) {w' : World} (hst : (storeCells (a.add (sLen * i.size)) news).run P w = .ok () w') :
    (Builtin.append_ #[st, xt] ty #[.slice (some a) sLen sCap, x]).run P w = .ok (.slice (some a) (sLen + n) sCap) w' := by
  rcases hx with ⟨d, hd, hne, hlen, hcells⟩ | ⟨k, k', hd, rfl, hn, hb, hnews⟩
  · simp [Builtin.append_, run_underlying ht, run_underlying hd, sizeOf, typeInfo, hi, hlen, hroom, hcells w (fun _ => rfl), hst]
  · have hw : IntKind.i64.wrap (n : Int) = n := wrap_nat (by omega)
    have h0 : ¬ ((n : Int) < 0) := by omega
    have h1 : ¬ (281474976710656 < (n : Int) * (i.bytes : Int)) := by
      have h0 : ((n * i.bytes : Nat) : Int) = (n : Int) * (i.bytes : Int) := Int.natCast_mul _ _
      rw [← h0]; omega
    have hst' := hst
    have e : news = (news.toArray).toList := by simp
    rw [e, hnews] at hst'
    by_cases hs : n * i.size = 0
    · rw [if_pos hs] at hst'
      simp at hst'
      simp [Builtin.append_, run_underlying ht, run_underlying hd, sizeOf, typeInfo, hi, asInt, asIntOf, hw, h1, hroom, hs, hst']
      intro hneg; omega
    · rw [if_neg hs] at hst'
      simp [Builtin.append_, run_underlying ht, run_underlying hd, sizeOf, typeInfo, zeroValue, hi, hz, asInt, asIntOf, hw, h1, hroom, hs, hst']
      intro hneg; omega

theorem run_app_nil0 [Sy] {st xt ty e : TypeId} {i : TypeInfo} {z : Value} {x : Value} {news : List Value} (ht : P.underlying st = some (.slice e)) (hi : P.info? e = some i)
    (hx : AppX P w xt x i z.cells 0 news) (sCap : Nat) :
    (Builtin.append_ #[st, xt] ty #[.slice none 0 sCap, x]).run P w = .ok (.slice none 0 sCap) w := by
  rcases hx with ⟨d, hd, hne, hlen, hcells⟩ | ⟨k, k', hd, rfl, hn, hb, hnews⟩
  · simp [Builtin.append_, run_underlying ht, run_underlying hd, sizeOf, typeInfo, hi, hlen, hcells w (fun _ => rfl)]
  · have hw : IntKind.i64.wrap ((0 : Nat) : Int) = 0 := wrap_nat (by omega)
    simp at hw
    simp [Builtin.append_, run_underlying ht, run_underlying hd, sizeOf, typeInfo, hi, asInt, asIntOf, hw]

theorem run_app_grow [Sy] {st xt ty e : TypeId} {i : TypeInfo} {z : Value} {x : Value} {n : Nat} {news : List Value} (ht : P.underlying st = some (.slice e)) (hi : P.info? e = some i) (hz : i.zero = some z)
    (hx : AppX P w xt x i z.cells n news) (b : Option Addr) (sLen sCap : Nat) (olds : List Value)
    (hold : ∀ W : World, (∀ a, W.cell? a = w.cell? a) → (Builtin.firstCells i.size sLen (.slice b sLen sCap)).run P W = .ok olds.toArray W)
    (hg : sCap < sLen + n) (h63 : sLen + n ≤ 4611686018427387904) (hfit : 2 * (sLen + n) * i.bytes ≤ 281474976710656) :
    (Builtin.append_ #[st, xt] ty #[.slice b sLen sCap, x]).run P w =
      .ok (.slice (some ⟨w.heap.size, 0, none⟩) (sLen + n) (grownCap w (sLen + n) sCap e))
        (w.drew.alloc (.cells ((olds ++ news).toArray ++ Builtin.zeroCells z.cells (grownCap w (sLen + n) sCap e - (sLen + n))) e)) := by
  have hn : ¬ (sLen + n ≤ sCap) := by omega
  have h63' : ¬ (9223372036854775807 < ((sLen : Int) + (n : Int))) := by omega
  have h48 : Builtin.nextslicecap (sLen + n) sCap * i.bytes ≤ 281474976710656 := Nat.le_trans (Nat.mul_le_mul_right _ (nextslicecap_le hg)) hfit
  have h48' : ¬ (281474976710656 < Builtin.nextslicecap (sLen + n) sCap * i.bytes) := by omega
  have hfo := hold w.drew (fun _ => rfl)
  have earr : (olds ++ news).toArray = olds.toArray ++ news.toArray := by simp
  rcases hx with ⟨d, hd, hne, hlen, hcells⟩ | ⟨k, k', hd, rfl, hn1, hb, hnews⟩
  · rw [earr]
    simp [Builtin.append_, run_underlying ht, run_underlying hd, sizeOf, typeInfo, zeroValue, hi, hz, hlen, hn, h63', h48', Question.forced, hcells w.drew (fun _ => rfl), hfo, newRow, grownCap, -List.append_toArray]
  · have hw : IntKind.i64.wrap (n : Int) = n := wrap_nat (by omega)
    have h1 : ¬ (281474976710656 < (n : Int) * (i.bytes : Int)) := by
      have h0 : ((n * i.bytes : Nat) : Int) = (n : Int) * (i.bytes : Int) := Int.natCast_mul _ _
      rw [← h0]; omega
    rw [earr, hnews]
    by_cases hs : n * i.size = 0
    · rw [if_pos hs]
      simp [Builtin.append_, run_underlying ht, run_underlying hd, sizeOf, typeInfo, zeroValue, hi, hz, asInt, asIntOf, hw, h1, hn, h63', h48', Question.forced, hfo, newRow, grownCap, hs, -List.append_toArray]
      intro hneg; omega
    · rw [if_neg hs]
      simp [Builtin.append_, run_underlying ht, run_underlying hd, sizeOf, typeInfo, zeroValue, hi, hz, asInt, asIntOf, hw, h1, hn, h63', h48', Question.forced, hfo, newRow, grownCap, hs, -List.append_toArray]
      intro hneg; omega

end
end Go.Ev
