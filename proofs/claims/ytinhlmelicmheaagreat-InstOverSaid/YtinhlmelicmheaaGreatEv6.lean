import Derived.Test.YtinhlmelicmheaaGreatEv5
import Derived.Laws.Append
import Derived.Laws.Entries
import Derived.Laws.Strings
namespace Go.Ev
open Go

/-! ## Soundness: operands and reads -/

def Good [Sy] (ρ : Ren) (E : Operand → Option AV) (ev : Operand → Value) (l : List Operand) : Prop :=
  ∀ x, x ∈ l → ∀ a, E x = some a → con ρ a = some (ev x)

theorem szOf_run {P : Program} {t : TypeId} {n : Nat} (h : szOf P t = some n) (w : World) : (sizeOf t).run P w = .ok n w := by
  unfold szOf at h
  split at h
  · rename_i i hi
    simp only [Option.some.injEq] at h; subst h
    simp [sizeOf, typeInfo, hi]
  · simp at h

theorem szOf_cells {P : Program} {t : TypeId} {n : Nat} (h : szOf P t = some n) : P.cellsOf t = n := by
  unfold szOf at h
  split at h
  · rename_i i hi
    simp only [Option.some.injEq] at h; subst h
    simp [Program.cellsOf, hi]
  · simp at h

theorem aggT_run {P : Program} {t : TypeId} {b : Bool} (h : aggT P t = some b) (w : World) : (isAgg t).run P w = .ok b w := by
  unfold aggT at h
  split at h
  · rename_i fs hd
    simp only [Option.some.injEq] at h; subst h
    simp [isAgg, run_underlying hd]
  · rename_i n e hd
    simp only [Option.some.injEq] at h; subst h
    simp [isAgg, run_underlying hd]
  · rename_i d h1 h2 hd
    simp only [Option.some.injEq] at h; subst h
    simp only [isAgg, Sem.run_bind, run_underlying hd, Result.andThen_ok]
    rfl
  · simp at h

theorem nth_eq {α : Type} : ∀ (l : List α) (i : Nat), nth l i = l[i]?
  | [], i => by simp [nth]
  | x :: l, 0 => by simp [nth]
  | x :: l, i + 1 => by simp [nth, nth_eq l i]

section
variable {P : Program} {N : Nat} {ρ : Ren} {σ : Heap} {w : World}

theorem Rep.cells [Sy] (h : Rep P N ρ σ w) {b n : Nat} {t : Tr AV} {dz : Option AV} {e : TypeId} {sp : Bool} {L : Loc} (hb : σ.get b = some (.cells n t dz e sp)) (hL : ρ b = some L) :
    ∃ c f, w.heap[L.blk]? = some (.cells c e f) ∧ c.size = L.base + n + L.spare * P.cellsOf e ∧ (sp = false → L.spare = 0) ∧
      (∀ i, i < n → ∃ av v, cget t dz i = some av ∧ con ρ av = some v ∧ c[L.base + i]? = some v) ∧ (f.1 = f.2 ∨ c.size ≤ f.1) := by
  obtain ⟨o, ho, c, f, e1, h1, h2, h3, h4⟩ := h.blk _ _ _ hb hL
  subst e1
  exact ⟨c, f, ho, h1, h2, h3, h4⟩

theorem Rep.cell [Sy] (h : Rep P N ρ σ w) {b n : Nat} {t : Tr AV} {dz : Option AV} {e : TypeId} {sp : Bool} {L : Loc} (hb : σ.get b = some (.cells n t dz e sp)) (hL : ρ b = some L)
    {i : Nat} (hi : i < n) {av : AV} (hav : cget t dz i = some av) : ∃ v, con ρ av = some v ∧ w.cell? ⟨L.blk, L.base + i, none⟩ = some v := by
  obtain ⟨c, f, ho, _, _, h3, _⟩ := h.cells hb hL
  obtain ⟨av', v, e1, e2, e3⟩ := h3 i hi
  rw [hav] at e1; cases e1
  exact ⟨v, e2, by simp [World.cell?, ho, e3]⟩

theorem Rep.range [Sy] (h : Rep P N ρ σ w) {b n : Nat} {t : Tr AV} {dz : Option AV} {e : TypeId} {sp : Bool} {L : Loc} (hb : σ.get b = some (.cells n t dz e sp)) (hL : ρ b = some L) :
    ∀ (k i : Nat) (l : List AV), i + k ≤ n → cgets t dz i k = some l → ∃ vs, conL ρ l = some vs ∧ vs.length = k ∧
      ∀ j v, vs[j]? = some v → w.cell? ⟨L.blk, L.base + i + j, none⟩ = some v
  | 0, i, l, _, hl => by
    simp only [cgets, Option.some.injEq] at hl; subst hl
    exact ⟨[], conL_nil ρ, rfl, by simp⟩
  | k + 1, i, l, hk, hl => by
    simp only [cgets] at hl
    split at hl
    · rename_i x hx
      split at hl
      · rename_i l' hl'
        simp only [Option.some.injEq] at hl; subst hl
        obtain ⟨v, hv, hc⟩ := h.cell hb hL (i := i) (by omega) hx
        obtain ⟨vs, h1, h2, h3⟩ := Rep.range h hb hL k (Nat.succ i) l' (by omega) hl'
        refine ⟨v :: vs, conL_cons.2 ⟨v, vs, hv, h1, rfl⟩, by simp [h2], fun j u hj => ?_⟩
        cases j with
        | zero => simp only [List.getElem?_cons_zero, Option.some.injEq] at hj; subst hj; exact hc
        | succ j =>
          simp only [List.getElem?_cons_succ] at hj
          have := h3 j u hj
          rw [show L.base + i + (j + 1) = L.base + Nat.succ i + j from by omega]; exact this
      · simp at hl
    · simp at hl

theorem run_range (a : Addr) (ha : a.spot = none) (vs : List Value) (h : ∀ (j : Nat) (v : Value), vs[j]? = some v → w.cell? ⟨a.block, a.off + j, none⟩ = some v) :
    (loadCells a vs.length).run P w = .ok vs.toArray w := by
  refine run_loadCells_list w a vs fun j v hj => ?_
  obtain ⟨b, o, s⟩ := a
  simp only at ha; subst ha
  rw [Addr.add_lit]; exact h j v hj

theorem rangeA_run [Sy] (h : Rep P N ρ σ w) {b off n : Nat} {l : List AV} (hl : rangeA σ b off n = some l) {L : Loc} (hL : ρ b = some L) :
    ∃ vs, conL ρ l = some vs ∧ vs.length = n ∧ (loadCells ⟨L.blk, L.base + off, none⟩ n).run P w = .ok vs.toArray w ∧
      ∀ (j : Nat) (v : Value), vs[j]? = some v → w.cell? ⟨L.blk, L.base + off + j, none⟩ = some v := by
  unfold rangeA at hl
  split at hl
  · rename_i m t dz e sp hb
    split at hl
    · rename_i hle
      have hle' := ble_t hle
      obtain ⟨vs, h1, h2, h3⟩ := h.range hb hL n off l (by simpa using hle') hl
      refine ⟨vs, h1, h2, ?_, h3⟩
      have := run_range (P := P) (w := w) ⟨L.blk, L.base + off, none⟩ rfl vs (by simpa using h3)
      rw [h2] at this; exact this
    · simp at hl
  · simp at hl

theorem loadA_run [Sy] (h : Rep P N ρ σ w) {t : TypeId} {b off : Nat} {r : AV} (hl : loadA P σ t b off = some r) {L : Loc} (hL : ρ b = some L) :
    ∃ v, con ρ r = some v ∧ (loadVar t ⟨L.blk, L.base + off, none⟩).run P w = .ok v w := by
  unfold loadA at hl
  split at hl
  · rename_i n tr dz e sp hb
    split at hl
    · rename_i hag
      split at hl
      · rename_i s hs
        split at hl
        · rename_i hle
          split at hl
          · rename_i l hcl
            simp only [Option.some.injEq] at hl; subst hl
            have hle' := ble_t hle
            obtain ⟨vs, h1, h2, h3⟩ := h.range hb hL s off l (by simpa using hle') hcl
            refine ⟨.agg vs.toArray, by simp only [con, h1, Option.map_some], ?_⟩
            have := run_range (P := P) (w := w) ⟨L.blk, L.base + off, none⟩ rfl vs (by simpa using h3)
            rw [h2] at this
            simp only [loadVar, Sem.run_bind, aggT_run hag, Result.andThen_ok, if_true, szOf_run hs, this, Sem.run_pure]
          · simp at hl
        · simp at hl
      · simp at hl
    · rename_i hag
      split at hl
      · rename_i hle
        have hle' := ble_t hle
        obtain ⟨v, hv, hc⟩ := h.cell hb hL (i := off) (by omega) hl
        refine ⟨v, hv, ?_⟩
        simp [loadVar, aggT_run hag, hc]
      · simp at hl
    · simp at hl
  · simp at hl

theorem con_ptr [Sy] {b off : Nat} {v : Value} (h : con ρ (.ptr b off) = some v) : ∃ L, ρ b = some L ∧ v = .pointer (some ⟨L.blk, L.base + off, none⟩) := by
  simp only [con, Option.map_eq_some_iff] at h
  obtain ⟨L, hL, e⟩ := h; exact ⟨L, hL, e.symm⟩

theorem con_sl [Sy] {b off len cap : Nat} {sp : Bool} {v : Value} (h : con ρ (.sl b off len cap sp) = some v) :
    ∃ L, ρ b = some L ∧ v = .slice (some ⟨L.blk, L.base + off, none⟩) len (capOf L cap sp) := by
  simp only [con, Option.map_eq_some_iff] at h
  obtain ⟨L, hL, e⟩ := h; exact ⟨L, hL, e.symm⟩

theorem con_int [Sy] {k : IntKind} {n : Int} {v : Value} (h : con ρ (.int k n) = some v) : v = .int k n := by simpa [con] using h.symm
theorem con_bool [Sy] {b : Bool} {v : Value} (h : con ρ (.bool b) = some v) : v = .bool b := by simpa [con] using h.symm
theorem con_str [Sy] {l : List Nat} {v : Value} (h : con ρ (.str l) = some v) : v = .string (bytesOf l) := by simpa [con] using h.symm
theorem con_lit [Sy] {u v : Value} (h : con ρ (.lit u) = some v) : v = u := by simpa [con] using h.symm
theorem con_agg [Sy] {l : List AV} {v : Value} (h : con ρ (.agg l) = some v) : ∃ vs, conL ρ l = some vs ∧ v = .agg vs.toArray := by
  simp only [con, Option.map_eq_some_iff] at h; obtain ⟨vs, h1, e⟩ := h; exact ⟨vs, h1, e.symm⟩
theorem con_tup [Sy] {l : List AV} {v : Value} (h : con ρ (.tup l) = some v) : ∃ vs, conL ρ l = some vs ∧ v = .tuple vs.toArray := by
  simp only [con, Option.map_eq_some_iff] at h; obtain ⟨vs, h1, e⟩ := h; exact ⟨vs, h1, e.symm⟩
theorem con_func [Sy] {fn : Fn} {xs ys : List AV} {v : Value} (h : con ρ (.func fn xs ys) = some v) : ∃ vs us, conL ρ xs = some vs ∧ conL ρ ys = some us ∧ v = .func fn vs.toArray us.toArray := by
  simp only [con, Option.bind_eq_some_iff, Option.map_eq_some_iff] at h
  obtain ⟨vs, h1, us, h2, e⟩ := h; exact ⟨vs, us, h1, h2, e.symm⟩

/-- What an operation gives that leaves the names alone. -/
def VOk [Sy] (P : Program) (N : Nat) (ρ : Ren) (σ : Heap) (w : World) (s : Sem Next) (r : AV) : Prop :=
  ∃ v w', con ρ r = some v ∧ s.run P w = .ok (.value v) w' ∧ Rep P N ρ σ w' ∧ RowKit.Below N w w'

theorem VOk.same [Sy] (h : Rep P N ρ σ w) {s : Sem Next} {r : AV} {v : Value} (hv : con ρ r = some v) (hs : s.run P w = .ok (.value v) w) : VOk P N ρ σ w s r :=
  ⟨v, w, hv, hs, h, RowKit.Below.refl _ _⟩

theorem evos_con [Sy] {E : Operand → Option AV} {ev : Operand → Value} : ∀ {l : List Operand} {as : List AV}, Good ρ E ev l → evos E l = some as → conL ρ as = some (l.map ev)
  | [], as, _, h => by simp only [evos, Option.some.injEq] at h; subst h; exact conL_nil ρ
  | x :: l, as, hg, h => by
    simp only [evos] at h
    split at h
    · rename_i a ha
      split at h
      · rename_i bs hbs
        simp only [Option.some.injEq] at h; subst h
        exact conL_cons.2 ⟨ev x, l.map ev, hg x (by simp) a ha, evos_con (fun y hy => hg y (by simp [hy])) hbs, rfl⟩
      · simp at h
    · simp at h

/-! The run that asks the world nothing. -/

theorem pureRun_run {α : Type} : ∀ (s : Sem α) (a : α), pureRun P s = some a → ∀ w, s.run P w = .ok a w := by
  intro s
  induction s with
  | pure b => intro a h w; simp only [pureRun, Option.some.injEq] at h; subst h; rfl
  | program k ih => intro a h w; simp only [pureRun] at h; simp only [Sem.run]; exact ih P a h w
  | _ => intro a h; simp [pureRun] at h

theorem allCon0_spec {E : Operand → Option AV} : ∀ {l : List Operand}, allCon0 E l = true → ∀ x ∈ l, ∃ a v, E x = some a ∧ con0 a = some v
  | [], _, x, hx => by simp at hx
  | y :: l, h, x, hx => by
    simp only [allCon0] at h
    split at h
    · rename_i a ha
      split at h
      · rename_i v hv
        rcases List.mem_cons.1 hx with rfl | hx
        · exact ⟨a, v, ha, hv⟩
        · exact allCon0_spec h x hx
      · simp at h
    · simp at h

theorem pureA_sound [Sy] {E : Operand → Option AV} {ev : Operand → Value} {o : Oper} {r : AV} (hr : Rep P N ρ σ w) (hg : Good ρ E ev o.op.operands.toList)
    (hs : ∀ cs b, o.op ≠ .select cs b) (h : pureA P E o = some r) : VOk P N ρ σ w (execOp ev o) r := by
  unfold pureA at h
  split at h
  · rename_i hall
    split at h
    · rename_i v hv
      have hsame : execOp ev o = execOp (valOf E) o := execOp_congr o hs fun x hx => by
        obtain ⟨a, u, ha, hu⟩ := allCon0_spec hall x (by simpa using hx)
        have := hg x (by simpa using hx) a ha
        rw [con_of_con0 hu] at this
        simp only [Option.some.injEq] at this
        simp [valOf, ha, hu, this]
      refine VOk.same hr (con_ofValue h) ?_
      rw [hsame]
      exact pureRun_run _ _ hv w
    · simp at h
  · simp at h

/-! Numbers and texts. -/

theorem andNot_toNat {n : Nat} (X Y : BitVec n) : (X &&& ~~~ Y).toNat = X.toNat ^^^ (X.toNat &&& Y.toNat) := by
  apply Nat.eq_of_testBit_eq
  intro i
  rw [Nat.testBit_xor, Nat.testBit_and]
  simp only [BitVec.testBit_toNat, BitVec.getLsbD_and, BitVec.getLsbD_not]
  by_cases hi : i < n
  · simp only [hi, decide_true, Bool.true_and]
    cases X.getLsbD i <;> cases Y.getLsbD i <;> rfl
  · have : X.getLsbD i = false := BitVec.getLsbD_of_ge _ _ (by omega)
    simp [this]

theorem bits_nat [Sy] {k : IntKind} (op : BinOp) {x y : Nat} (hx : x ≤ maxN k) (hy : y ≤ maxN k) (hop : op = .and ∨ op = .or ∨ op = .xor ∨ op = .andNot) :
    Int.ofNat (bitF op x y) = Go.bits op k (.ofNat x) (.ofNat y) := by
  have hm : maxN k < 2 ^ k.bits := by cases k <;> decide
  have ex : (BitVec.ofInt k.bits (Int.ofNat x)).toNat = x := by
    simp only [Int.ofNat_eq_natCast, BitVec.ofInt_natCast, BitVec.toNat_ofNat]; exact Nat.mod_eq_of_lt (by omega)
  have ey : (BitVec.ofInt k.bits (Int.ofNat y)).toNat = y := by
    simp only [Int.ofNat_eq_natCast, BitVec.ofInt_natCast, BitVec.toNat_ofNat]; exact Nat.mod_eq_of_lt (by omega)
  -- the answer stays within the kind's range
  obtain ⟨m, hmx, hpow⟩ : ∃ m, maxN k = 2 ^ m - 1 ∧ m ≤ k.bits := by
    cases k
    · exact ⟨7, by decide, by decide⟩
    · exact ⟨15, by decide, by decide⟩
    · exact ⟨31, by decide, by decide⟩
    · exact ⟨63, by decide, by decide⟩
    · exact ⟨8, by decide, by decide⟩
    · exact ⟨16, by decide, by decide⟩
    · exact ⟨32, by decide, by decide⟩
    · exact ⟨64, by decide, by decide⟩
  have hp : 0 < 2 ^ m := Nat.pow_pos (by decide)
  have hx' : x < 2 ^ m := by omega
  have hy' : y < 2 ^ m := by omega
  have hwrap : ∀ r : Nat, r < 2 ^ m → Int.ofNat r = k.wrap (r : Int) := fun r hr => by
    rw [← wrapF_eq]
    show _ = wrapF k (.ofNat r)
    simp only [wrapF, Nat.ble_eq_true_of_le (show r ≤ maxN k by omega)]
  unfold Go.bits
  rcases hop with rfl | rfl | rfl | rfl
  · simp only [bitF]
    rw [BitVec.toNat_and, ex, ey]
    exact hwrap _ (Nat.and_lt_two_pow _ hy')
  · simp only [bitF]
    rw [BitVec.toNat_or, ex, ey]
    exact hwrap _ (Nat.or_lt_two_pow hx' hy')
  · simp only [bitF]
    rw [BitVec.toNat_xor, ex, ey]
    exact hwrap _ (Nat.xor_lt_two_pow hx' hy')
  · simp only [bitF]
    have e : (BitVec.ofInt k.bits (Int.ofNat x) &&& ~~~ BitVec.ofInt k.bits (Int.ofNat y)).toNat = x ^^^ (x &&& y) := by
      rw [andNot_toNat, ex, ey]
    rw [e]
    exact hwrap _ (Nat.xor_lt_two_pow hx' (Nat.and_lt_two_pow _ hy'))

theorem bitI_eq [Sy] {k : IntKind} (op : BinOp) (a b : Int) (hop : op = .and ∨ op = .or ∨ op = .xor ∨ op = .andNot) : bitI op k a b = Go.bits op k a b := by
  unfold bitI
  split
  · split
    · rename_i hx
      split
      · rename_i hy; exact bits_nat op (ble_t hx) (ble_t hy) hop
      · rfl
    · rfl
  · rfl

theorem eqI_zero {b : Int} (h : eqI b 0 = false) : b ≠ 0 := by
  intro e; subst e; simp [eqI_eq] at h

theorem divI_eq (a b : Int) : divI a b = a.tdiv b := by cases a <;> cases b <;> rfl
theorem modI_eq (a b : Int) : modI a b = a.tmod b := by cases a <;> cases b <;> rfl

theorem con_int' [Sy] (ρ : Ren) (k : IntKind) (n : Int) : con ρ (.int k n) = some (.int k n) := by simp only [con]
theorem con_bool' [Sy] (ρ : Ren) (b : Bool) : con ρ (.bool b) = some (.bool b) := by simp only [con]
theorem con_str' [Sy] (ρ : Ren) (l : List Nat) : con ρ (.str l) = some (.string (bytesOf l)) := by simp only [con]
theorem con_lit' [Sy] (ρ : Ren) (v : Value) : con ρ (.lit v) = some v := by simp only [con]

theorem intBin_sound [Sy] {op : BinOp} {t : TypeId} {k k' : IntKind} {a b : Int} {r : AV} (h : intBin op k a k' b = some r) :
    ∃ v, con ρ r = some v ∧ (binOp op t (.int k a) (.int k' b)).run P w = .ok v w := by
  cases op
  case shl =>
    simp only [intBin] at h
    split at h
    · rename_i n
      simp only [Option.some.injEq] at h; subst h
      refine ⟨_, con_int' _ _ _, ?_⟩
      simp only [binOp_shl, Op.shift]
      rw [if_neg (by simp)]
      simp [wrapF_eq, mulI_eq, capN_eq]
    · simp at h
  case shr =>
    simp only [intBin] at h
    split at h
    · rename_i n
      simp only [Option.some.injEq] at h; subst h
      refine ⟨_, con_int' _ _ _, ?_⟩
      simp only [binOp_shr, Op.shift]
      rw [if_neg (by simp)]
      simp [shrI_eq, capN_eq]
    · simp at h
  case quo =>
    simp only [intBin] at h
    split at h
    · simp at h
    · rename_i hk
      have hk' := sameK_eq hk
      subst hk'
      split at h
      · simp at h
      · rename_i he
        simp only [Option.some.injEq] at h; subst h
        refine ⟨_, con_int' _ _ _, ?_⟩
        simp [binOp, Op.intDiv, eqI_zero he, wrapF_eq, divI_eq]
  case rem =>
    simp only [intBin] at h
    split at h
    · simp at h
    · rename_i hk
      have hk' := sameK_eq hk
      subst hk'
      split at h
      · simp at h
      · rename_i he
        simp only [Option.some.injEq] at h; subst h
        refine ⟨_, con_int' _ _ _, ?_⟩
        simp [binOp, Op.intDiv, eqI_zero he, modI_eq]
  all_goals
    simp only [intBin] at h
    split at h
    · simp at h
    · rename_i hk
      have hk' := sameK_eq hk
      subst hk'
      simp only [Option.some.injEq] at h
      subst h
      refine ⟨_, by first | exact con_int' _ _ _ | exact con_bool' _ _, ?_⟩
      first
        | (simp [binOp, Op.intArith, wrapF_eq, addI_eq, subI_eq, mulI_eq]; done)
        | (simp [binOp, Op.intCmp, eqI_eq, ltI_eq]; done)
        | (simp [binOp, bitI_eq]; rfl)
        | (simp [binOp, Op.intCmp, eqI_eq]; rfl)
        | (simp [binOp, Op.intCmp, ltI_eq]; rw [Bool.eq_iff_iff]; simp; done)

/-! Places known by their bounds. -/

theorem con_spt [Sy] {b off s : Nat} {e : SE} {v : Value} (h : con ρ (.spt b off s e) = some v) : ∃ L i, ρ b = some L ∧ e.eval = some (.ofNat i) ∧ v = .pointer (some ⟨L.blk, L.base + (off + i * s), none⟩) := by
  simp only [con, Option.bind_eq_some_iff, Option.map_eq_some_iff] at h
  obtain ⟨L, hL, i, ⟨n, hn, hi⟩, e1⟩ := h
  have := natI_spec.1 hi
  subst this
  exact ⟨L, i, hL, hn, e1.symm⟩

theorem con_sstr [Sy] {l : List AV} {v : Value} (h : con ρ (.sstr l) = some v) : ∃ vs bs, conL ρ l = some vs ∧ bytesV vs = some bs ∧ v = .string (bytesOf bs) := by
  simp only [con, Option.bind_eq_some_iff, Option.map_eq_some_iff] at h
  obtain ⟨bs, ⟨vs, h1, h2⟩, e⟩ := h
  exact ⟨vs, bs, h1, h2, e.symm⟩

theorem iv_nat [Sy] {e : SE} {lo hi i : Nat} (h : e.iv = some (.ofNat lo, .ofNat hi)) (hi' : e.eval = some (.ofNat i)) : lo ≤ i ∧ i ≤ hi := by
  have := SE.iv_sound e h hi'
  simp only [Int.ofNat_eq_natCast] at this
  omega

theorem inP_spec [Sy] {n off s : Nat} {e : SE} (h : inP n off s e = true) {i : Nat} (hi : e.eval = some (.ofNat i)) : off + i * s < n := by
  unfold inP at h
  split at h
  · rename_i lo hi' hiv
    have := iv_nat hiv hi
    have h := ble_t h
    have h : off + hi' * s < n := h
    have := Nat.mul_le_mul_right s this.2
    omega
  · cases h

theorem sameInt_eq {a b : AV} (h : sameInt a b = true) : a = b := by
  unfold sameInt at h
  split at h
  · split at h
    · rename_i hk
      rw [sameK_eq hk, eqI_t h]
    · cases h
  · cases h

theorem uniA_spec {t : Tr AV} {dz : Option AV} {x0 : AV} {s : Nat} : ∀ {n i : Nat}, uniA t dz x0 s n i = true → ∀ j, j < n → cget t dz (i + j * s) = some x0
  | 0, i, _, j, hj => by omega
  | n + 1, i, h, j, hj => by
    simp only [uniA] at h
    split at h
    · rename_i x hx
      split at h
      · rename_i he
        have he := sameInt_eq he
        subst he
        cases j with
        | zero => simpa using hx
        | succ j =>
          have := uniA_spec h j (by omega)
          rw [show i + (j + 1) * s = Nat.add i s + j * s from by show _ = i + s + j * s; rw [Nat.add_mul]; omega]
          exact this
      · cases h
    · cases h

theorem uniR_spec [Sy] {n : Nat} {t : Tr AV} {dz : Option AV} {off s : Nat} {e : SE} {r : AV} (h : uniR n t dz off s e = some r) {i : Nat} (hi : e.eval = some (.ofNat i)) :
    off + i * s < n ∧ cget t dz (off + i * s) = some r := by
  unfold uniR at h
  split at h
  · rename_i lo hi' hiv
    have hb := iv_nat hiv hi
    split at h
    · rename_i hn
      have hn : off + hi' * s < n := ble_t hn
      split at h
      · rename_i x0 hx0
        split at h
        · rename_i hu
          simp only [Option.some.injEq] at h; subst h
          refine ⟨by have := Nat.mul_le_mul_right s hb.2; omega, ?_⟩
          have := uniA_spec hu (i - lo) (by show i - lo < hi' - lo + 1; omega)
          rw [show Nat.add off (Nat.mul lo s) + (i - lo) * s = off + i * s from by
            show off + lo * s + (i - lo) * s = _
            rw [Nat.add_assoc, ← Nat.add_mul, show lo + (i - lo) = i from by omega]] at this
          exact this
        · cases h
      · cases h
    · cases h
  · cases h

theorem plIv_spec [Sy] {off s : Nat} {e : SE} {la ha : Int} (h : plIv off s e = some (la, ha)) {i : Nat} (hi : e.eval = some (.ofNat i)) : la ≤ ((off + i * s : Nat) : Int) ∧ ((off + i * s : Nat) : Int) ≤ ha := by
  unfold plIv at h
  split at h
  · rename_i lo hi' hiv
    have hb := iv_nat hiv hi
    simp only [Option.some.injEq, Prod.mk.injEq] at h
    obtain ⟨rfl, rfl⟩ := h
    have h1 := Nat.mul_le_mul_right s hb.1
    have h2 := Nat.mul_le_mul_right s hb.2
    constructor
    · show ((off + lo * s : Nat) : Int) ≤ _
      omega
    · show _ ≤ ((off + hi' * s : Nat) : Int)
      omega
  · cases h

theorem relIv_spec [Sy] {off s off' s' : Nat} {e e' : SE} {b : Bool} (h : relIv off s e off' s' e' = some b) {i j : Nat} (hi : e.eval = some (.ofNat i)) (hj : e'.eval = some (.ofNat j)) :
    decide (off + i * s = off' + j * s') = b := by
  unfold relIv at h
  split at h
  · rename_i la ha ea
    split at h
    · rename_i lb hb eb
      have A := plIv_spec ea hi
      have B := plIv_spec eb hj
      have := cmpI_sound h A.1 A.2 B.1 B.2
      simp only [cmpV, eqI_eq] at this
      rw [← this, Bool.eq_iff_iff]
      simp only [decide_eq_true_eq, beq_iff_eq]
      omega
    · cases h
  · cases h

theorem relP_spec [Sy] {off s off' s' : Nat} {e e' : SE} {b : Bool} (h : relP off s e off' s' e' = some b) {i j : Nat} (hi : e.eval = some (.ofNat i)) (hj : e'.eval = some (.ofNat j)) :
    decide (off + i * s = off' + j * s') = b := by
  unfold relP at h
  split at h
  · rename_i ho
    have ho := Nat.eq_of_beq_eq_true ho
    split at h
    · rename_i hs
      have hs := Nat.eq_of_beq_eq_true hs
      subst ho; subst hs
      split at h
      · rename_i hz
        have hz := Nat.eq_of_beq_eq_true hz
        subst hz
        simp only [Option.some.injEq] at h; subst h
        simp
      · rename_i hz
        have hz : s ≠ 0 := Nat.ne_of_beq_eq_false hz
        split at h
        · rename_i b' hb
          simp only [Option.some.injEq] at h; subst h
          have := relE_sound hb hi hj
          rw [← this, Bool.eq_iff_iff]
          simp only [decide_eq_true_eq, Int.ofNat_eq_natCast]
          constructor
          · intro h1
            have h2 : i * s = j * s := by omega
            have := Nat.eq_of_mul_eq_mul_right (Nat.pos_of_ne_zero hz) h2
            omega
          · intro h1
            have : i = j := by omega
            subst this; rfl
        · cases h
    · exact relIv_spec h hi hj
  · exact relIv_spec h hi hj

theorem SW.place_eq [Sy] {x : SW} {i : Nat} (h : x.e.eval = some (.ofNat i)) : x.place = some (x.off + i * x.s) := by
  simp only [SW.place, h, Option.bind_some, natI, Option.map_some]

theorem wsGet_spec [Sy] {t : Tr AV} {dz : Option AV} {off s : Nat} {e : SE} {i : Nat} (hi : e.eval = some (.ofNat i)) : ∀ {ws : List SW} {o : Option AV}, wsGet off s e ws = some o → (∀ x, x ∈ ws → ∃ i : Nat, x.e.eval = some (.ofNat i)) →
    oget t dz ws (off + i * s) = (match o with | some v => some v | none => cget t dz (off + i * s))
  | [], o, h, _ => by simp only [wsGet, Option.some.injEq] at h; subst h; simp only [oget]
  | x :: ws, o, h, hall => by
    obtain ⟨j, hj⟩ := hall x (by simp)
    simp only [wsGet] at h
    simp only [oget, SW.place_eq hj]
    split at h
    · rename_i hr
      have := relP_spec hr hj hi
      simp only [decide_eq_true_eq] at this
      simp only [Option.some.injEq] at h; subst h
      rw [if_pos (by rw [this])]
    · rename_i hr
      have := relP_spec hr hj hi
      simp only [decide_eq_false_iff_not] at this
      rw [if_neg (by simpa using this)]
      exact wsGet_spec hi h (fun x hx => hall x (by simp [hx]))
    · cases h

theorem Rep.ov [Sy] (h : Rep P N ρ σ w) {b n : Nat} {t : Tr AV} {dz : Option AV} {e : TypeId} {sp : Bool} {ws : List SW} {L : Loc} (hb : σ.get b = some (.ov n t dz e sp ws)) (hL : ρ b = some L) :
    ∃ c f, w.heap[L.blk]? = some (.cells c e f) ∧ c.size = L.base + n + L.spare * P.cellsOf e ∧ (sp = false → L.spare = 0) ∧
      (∀ i, i < n → ∃ av v, oget t dz ws i = some av ∧ con ρ av = some v ∧ c[L.base + i]? = some v) ∧ (f.1 = f.2 ∨ c.size ≤ f.1) ∧ (∀ x, x ∈ ws → ∃ i : Nat, x.e.eval = some (.ofNat i)) := by
  obtain ⟨o, ho, c, f, e1, h1, h2, h3, h4, h5⟩ := h.blk _ _ _ hb hL
  subst e1
  exact ⟨c, f, ho, h1, h2, h3, h4, h5⟩

theorem loadS_run [Sy] (h : Rep P N ρ σ w) {t : TypeId} {b off s : Nat} {e : SE} {r : AV} (hl : loadS P σ t b off s e = some r) {L : Loc} (hL : ρ b = some L) {i : Nat} (hi : e.eval = some (.ofNat i)) :
    ∃ v, con ρ r = some v ∧ (loadVar t ⟨L.blk, L.base + (off + i * s), none⟩).run P w = .ok v w := by
  unfold loadS at hl
  split at hl
  · rename_i hag
    have fin : ∀ {c : Array Value} {el : TypeId} {f : Nat × Nat} {v : Value}, w.heap[L.blk]? = some (.cells c el f) → c[L.base + (off + i * s)]? = some v → con ρ r = some v → ∃ v, con ρ r = some v ∧ (loadVar t ⟨L.blk, L.base + (off + i * s), none⟩).run P w = .ok v w := by
      intro c el f v hc hv hr
      refine ⟨v, hr, ?_⟩
      have hcell : w.cell? ⟨L.blk, L.base + (off + i * s), none⟩ = some v := by simp [World.cell?, hc, hv]
      simp [loadVar, aggT_run hag, hcell]
    split at hl
    · rename_i n tr dz el sp hb
      obtain ⟨h1, h2⟩ := uniR_spec hl hi
      obtain ⟨c, f, hc, _, _, h3, _⟩ := h.cells hb hL
      obtain ⟨av, v, e1, e2, e3⟩ := h3 _ h1
      rw [h2] at e1; cases e1
      exact fin hc e3 e2
    · rename_i n tr dz el sp ws hb
      obtain ⟨c, f, hc, _, _, h3, _, h5⟩ := h.ov hb hL
      split at hl
      · rename_i v hv
        have hg := wsGet_spec (t := tr) (dz := dz) hi hv h5
        simp only at hg
        split at hl
        · rename_i hin
          simp only [Option.some.injEq] at hl; subst hl
          obtain ⟨av, u, e1, e2, e3⟩ := h3 _ (inP_spec hin hi)
          rw [hg] at e1; cases e1
          exact fin hc e3 e2
        · cases hl
      · rename_i hv
        have hg := wsGet_spec (t := tr) (dz := dz) hi hv h5
        simp only at hg
        obtain ⟨h1, h2⟩ := uniR_spec hl hi
        obtain ⟨av, u, e1, e2, e3⟩ := h3 _ h1
        rw [hg, h2] at e1; cases e1
        exact fin hc e3 e2
      · cases hl
    · cases hl
  · cases hl

end
end Go.Ev
