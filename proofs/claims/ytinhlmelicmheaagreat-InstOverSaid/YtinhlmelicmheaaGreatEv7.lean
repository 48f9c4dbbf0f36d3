import Derived.Test.YtinhlmelicmheaaGreatEv6
import Derived.Laws.BytesString
import Derived.Laws.StructEq
import Derived.Laws.Slices
import Derived.Laws.Strings2
import Derived.Laws.Small
import Derived.Laws.Pointers
namespace Go.Ev
open Go

section
variable {P : Program} {N : Nat} {ρ : Ren} {σ : Heap} {w : World} {E : Operand → Option AV} {ev : Operand → Value} {o : Oper} {r : AV}

theorem toList_bytesOf (l : List Nat) : (bytesOf l).toList = l.map UInt8.ofNat := by rw [ByteArray.toList_eq]; rfl
theorem size_bytesOf (l : List Nat) : (bytesOf l).size = l.length := by simp [bytesOf, ByteArray.size]
theorem ofNat_eq_iff (x y : Nat) : UInt8.ofNat x = UInt8.ofNat y ↔ x % 256 = y % 256 := by
  rw [← UInt8.toNat_inj]; simp [UInt8.toNat_ofNat']

theorem strEq_eq [Sy] : ∀ (a b : List Nat), strEq a b = ((bytesOf a).toList == (bytesOf b).toList)
  | [], [] => by simp [strEq]
  | [], _ :: _ => by simp [strEq, toList_bytesOf]
  | _ :: _, [] => by simp [strEq, toList_bytesOf]
  | x :: l, y :: m => by
    have ih := strEq_eq l m
    simp only [toList_bytesOf, strEq, List.map_cons] at ih ⊢
    have e : Nat.beq (Nat.mod x 256) (Nat.mod y 256) = decide (x % 256 = y % 256) := beq_dec _ _
    rw [e]
    by_cases h : x % 256 = y % 256
    · have h' := (ofNat_eq_iff x y).2 h
      simp [h, h', ih]
    · have h' : ¬ UInt8.ofNat x = UInt8.ofNat y := fun hh => h ((ofNat_eq_iff x y).1 hh)
      simp [h, h']

theorem strLt_eq [Sy] : ∀ (a b : List Nat), strLt a b = Op.bytesLess (bytesOf a).toList (bytesOf b).toList
  | a, [] => by cases a <;> simp [strLt, toList_bytesOf, Op.bytesLess]
  | [], _ :: _ => by simp [strLt, toList_bytesOf, Op.bytesLess]
  | x :: l, y :: m => by
    have ih := strLt_eq l m
    simp only [toList_bytesOf, strLt, List.map_cons, Op.bytesLess] at ih ⊢
    have e1 : Nat.ble (Nat.succ (Nat.mod x 256)) (Nat.mod y 256) = decide (UInt8.ofNat x < UInt8.ofNat y) := by
      rw [ble_dec]
      have : (UInt8.ofNat x < UInt8.ofNat y) ↔ x % 256 < y % 256 := by rw [UInt8.lt_iff_toNat_lt]; simp [UInt8.toNat_ofNat']
      show decide (Nat.succ (x % 256) ≤ y % 256) = _
      rw [Bool.eq_iff_iff]; simp [this]; omega
    have e2 : Nat.beq (Nat.mod x 256) (Nat.mod y 256) = (UInt8.ofNat x == UInt8.ofNat y) := by
      rw [beq_dec, Bool.eq_iff_iff]; simp [ofNat_eq_iff]; rfl
    rw [e1, e2, ← ih]
    cases decide (UInt8.ofNat x < UInt8.ofNat y) <;> cases (UInt8.ofNat x == UInt8.ofNat y) <;> rfl

theorem bytesOf_append (a b : List Nat) : bytesOf a ++ bytesOf b = bytesOf (a ++ b) := by
  apply ByteArray.ext
  simp [bytesOf, ByteArray.data_append]

theorem strBin_sound [Sy] {op : BinOp} {t : TypeId} {a b : List Nat} (h : strBin op a b = some r) :
    ∃ v, con ρ r = some v ∧ (binOp op t (.string (bytesOf a)) (.string (bytesOf b))).run P w = .ok v w := by
  cases op <;> simp only [strBin, reduceCtorEq] at h
  case add =>
    split at h
    · rename_i hle
      simp only [Option.some.injEq] at h; subst h
      refine ⟨_, con_str' _ _, ?_⟩
      have := ble_t hle
      have h2 : ¬ (((bytesOf a).size + (bytesOf b).size : Nat) : Int) > IntKind.i64.max := by
        rw [size_bytesOf, size_bytesOf, IntKind.max_i64]
        simp at this; omega
      simp only [binOp_string_add, Op.stringOp]
      rw [if_neg h2]
      simp [bytesOf_append]
    · simp at h
  all_goals
    simp only [Option.some.injEq] at h
    subst h
    refine ⟨_, con_bool' _ _, ?_⟩
    simp [binOp, Op.stringOp, strEq_eq, strLt_eq]

theorem Good.at [Sy] (hg : Good ρ E ev o.op.operands.toList) {x : Operand} (hx : x ∈ o.op.operands.toList) {a : AV} (ha : E x = some a) : con ρ a = some (ev x) := hg x hx a ha

theorem part_sound [Sy] {t : TypeId} {cs : List AV} {vs : List Value} {off : Nat} (hc : conL ρ cs = some vs) (h : partA P t cs off = some r) :
    ∃ v, con ρ r = some v ∧ (part t vs.toArray off).run P w = .ok v w := by
  unfold partA at h
  split at h
  · rename_i hag
    split at h
    · rename_i s hs
      simp only [Option.some.injEq] at h; subst h
      refine ⟨.agg ((vs.drop off).take s).toArray, ?_, ?_⟩
      · simp only [con, conL_take (conL_drop hc off) s, Option.map_some]
      · have e : vs.toArray.extract off (off + s) = ((vs.drop off).take s).toArray := by simp
        simp only [part, Sem.run_bind, aggT_run hag, Result.andThen_ok, if_true, szOf_run hs, Sem.run_pure, e]
    · simp at h
  · rename_i hag
    rw [nth_eq] at h
    obtain ⟨v, hv, hcv⟩ := conL_get hc off r h
    refine ⟨v, hcv, ?_⟩
    simp [part, aggT_run hag, hv]
  · simp at h

theorem eqFs_sound [Sy] {d : Nat} {xs ys : List AV} {us vs : List Value} (hx : conL ρ xs = some us) (hy : conL ρ ys = some vs)
    (ih : ∀ (t : TypeId) (x y : AV) (b : Bool) (u v : Value), eqT P d t x y = some b → con ρ x = some u → con ρ y = some v → (Op.equalIn d t u v).run P w = .ok b w) :
    ∀ (fs : List Field) (b : Bool), eqFs P (eqT P d) xs ys fs = some b → (Op.eqFields d us.toArray vs.toArray fs).run P w = .ok b w
  | [], b, h => by simp only [eqFs, Option.some.injEq] at h; subst h; simp [Op.eqFields]
  | f :: fs, b, h => by
    simp only [eqFs] at h
    split at h
    · rename_i hn
      have hn' : ¬ f.name ≠ "_" := by simpa using hn
      simp only [Op.eqFields]
      rw [if_neg hn']
      exact eqFs_sound hx hy ih fs b h
    · rename_i hn
      have hn' : f.name ≠ "_" := by simpa using hn
      simp only [Op.eqFields]
      rw [if_pos hn']
      split at h
      · rename_i x hpx
        split at h
        · rename_i y hpy
          obtain ⟨u, hu, hru⟩ := part_sound (w := w) hx hpx
          obtain ⟨v, hv, hrv⟩ := part_sound (w := w) hy hpy
          split at h
          · rename_i he
            simp only [Sem.run_bind, hru, hrv, Result.andThen_ok, ih _ _ _ _ _ _ he hu hv]
            simpa using eqFs_sound hx hy ih fs b h
          · rename_i he
            simp only [Option.some.injEq] at h; subst h
            simp only [Sem.run_bind, hru, hrv, Result.andThen_ok, ih _ _ _ _ _ _ he hu hv]
            simp
          · simp at h
        · simp at h
      · simp at h

theorem eqT_sound [Sy] : ∀ (d : Nat) (t : TypeId) (x y : AV) (b : Bool) (u v : Value), eqT P d t x y = some b → con ρ x = some u → con ρ y = some v →
    (Op.equalIn d t u v).run P w = .ok b w
  | 0, t, x, y, b, u, v, h, _, _ => by simp [eqT] at h
  | d + 1, t, x, y, b, u, v, h, hu, hv => by
    simp only [eqT] at h
    split at h
    · rename_i ht
      split at h
      · simp only [Option.some.injEq] at h; subst h
        obtain rfl := con_bool hu; obtain rfl := con_bool hv
        exact run_equalIn_bool' w d t _ _ ht
      · simp at h
    · rename_i k ht
      split at h
      · rename_i k1 a k2 b'
        split at h
        · rename_i hk
          have := sameK_eq hk; subst this
          simp only [Option.some.injEq] at h; subst h
          obtain rfl := con_int hu; obtain rfl := con_int hv
          rw [eqI_eq]; exact run_equalIn_int w d t _ _ _ _ ht
        · simp at h
      · simp at h
    · rename_i ht
      split at h
      · simp only [Option.some.injEq] at h; subst h
        obtain rfl := con_str hu; obtain rfl := con_str hv
        rw [strEq_eq]; exact run_equalIn_string w d t _ _ ht
      · simp at h
    · rename_i fields ht
      split at h
      · rename_i xs ys
        split at h
        · simp at h
        · rename_i hst
          obtain ⟨us, hus, rfl⟩ := con_agg hu
          obtain ⟨vs, hvs, rfl⟩ := con_agg hv
          have hf : P.fieldsOf t = fields := by simp [Program.fieldsOf, ht]
          rw [run_equalIn_struct w d t _ _ (by rw [ht, hf]) hst, hf]
          exact eqFs_sound hus hvs (fun t x y b u v => eqT_sound d t x y b u v) _ _ h
      · simp at h
    · simp at h

theorem equal_ptr_nilD (d : Nat) {t e : TypeId} (he : P.underlying t = some (.pointer e)) (a : Addr) : (Op.equalIn (d + 1) t (.pointer (some a)) (.pointer none)).run P w = .ok false w := by
  simp only [Op.equalIn, Sem.run_bind, run_underlying he, Result.andThen_ok]; rfl
theorem equal_ptr_nil [Sy] {t e : TypeId} (he : P.underlying t = some (.pointer e)) (a : Addr) : (Op.equal t (.pointer (some a)) (.pointer none)).run P w = .ok false w := equal_ptr_nilD 9999 he a
theorem equal_nil_ptrD (d : Nat) {t e : TypeId} (he : P.underlying t = some (.pointer e)) (a : Addr) : (Op.equalIn (d + 1) t (.pointer none) (.pointer (some a))).run P w = .ok false w := by
  simp only [Op.equalIn, Sem.run_bind, run_underlying he, Result.andThen_ok]; rfl
theorem equal_nil_ptr [Sy] {t e : TypeId} (he : P.underlying t = some (.pointer e)) (a : Addr) : (Op.equal t (.pointer none) (.pointer (some a))).run P w = .ok false w := equal_nil_ptrD 9999 he a
theorem equal_sl_nilD (d : Nat) {t e : TypeId} (he : P.underlying t = some (.slice e)) (a : Addr) (n c n' c' : Nat) : (Op.equalIn (d + 1) t (.slice (some a) n c) (.slice none n' c')).run P w = .ok false w := by
  simp only [Op.equalIn, Sem.run_bind, run_underlying he, Result.andThen_ok]; rfl
theorem equal_sl_nil [Sy] {t e : TypeId} (he : P.underlying t = some (.slice e)) (a : Addr) (n c n' c' : Nat) : (Op.equal t (.slice (some a) n c) (.slice none n' c')).run P w = .ok false w := equal_sl_nilD 9999 he a n c n' c'
theorem equal_nil_slD (d : Nat) {t e : TypeId} (he : P.underlying t = some (.slice e)) (a : Addr) (n c n' c' : Nat) : (Op.equalIn (d + 1) t (.slice none n' c') (.slice (some a) n c)).run P w = .ok false w := by
  simp only [Op.equalIn, Sem.run_bind, run_underlying he, Result.andThen_ok]; rfl
theorem equal_nil_sl [Sy] {t e : TypeId} (he : P.underlying t = some (.slice e)) (a : Addr) (n c n' c' : Nat) : (Op.equal t (.slice none n' c') (.slice (some a) n c)).run P w = .ok false w := equal_nil_slD 9999 he a n c n' c'
theorem equal_map_nilD (d : Nat) {t k e : TypeId} (he : P.underlying t = some (.map k e)) (a : Nat) : (Op.equalIn (d + 1) t (.map (some a)) (.map none)).run P w = .ok false w := by
  simp only [Op.equalIn, Sem.run_bind, run_underlying he, Result.andThen_ok]; rfl
theorem equal_map_nil [Sy] {t k e : TypeId} (he : P.underlying t = some (.map k e)) (a : Nat) : (Op.equal t (.map (some a)) (.map none)).run P w = .ok false w := equal_map_nilD 9999 he a
theorem equal_func_nilD (d : Nat) {t : TypeId} {a b : Array TypeId} {c : Bool} (he : P.underlying t = some (.func a b c)) (f : Fn) (x y : Array Value) : (Op.equalIn (d + 1) t (.func f x y) .nilFunc).run P w = .ok false w := by
  simp only [Op.equalIn, Sem.run_bind, run_underlying he, Result.andThen_ok]; rfl
theorem equal_func_nil [Sy] {t : TypeId} {a b : Array TypeId} {c : Bool} (he : P.underlying t = some (.func a b c)) (f : Fn) (x y : Array Value) : (Op.equal t (.func f x y) .nilFunc).run P w = .ok false w := equal_func_nilD 9999 he f x y

theorem nilCmp_sound [Sy] {op : BinOp} (h : nilCmp op = some r) {t : TypeId} {u v : Value} (hu : (Op.equal t u v).run P w = .ok false w)
    (he : binOp .eql t u v = (do pure (.bool (← Op.equal t u v)))) (hn : binOp .neq t u v = (do pure (.bool (!(← Op.equal t u v))))) :
    ∃ z, con ρ r = some z ∧ (binOp op t u v).run P w = .ok z w := by
  cases op <;> simp only [nilCmp, reduceCtorEq, Option.some.injEq] at h
  · subst h; exact ⟨_, con_bool' _ _, by rw [he]; simp [hu]⟩
  · subst h; exact ⟨_, con_bool' _ _, by rw [hn]; simp [hu]⟩

theorem isPtrT_spec {t : TypeId} (h : isPtrT P t = true) : ∃ e, P.underlying t = some (.pointer e) := by
  unfold isPtrT at h; split at h
  · rename_i e he; exact ⟨e, he⟩
  · simp at h
theorem isSliceT_spec {t : TypeId} (h : isSliceT P t = true) : ∃ e, P.underlying t = some (.slice e) := by
  unfold isSliceT at h; split at h
  · rename_i e he; exact ⟨e, he⟩
  · simp at h
theorem isMapT_spec {t : TypeId} (h : isMapT P t = true) : ∃ k e, P.underlying t = some (.map k e) := by
  unfold isMapT at h; split at h
  · rename_i k e he; exact ⟨k, e, he⟩
  · simp at h
theorem isFuncT_spec {t : TypeId} (h : isFuncT P t = true) : ∃ a b c, P.underlying t = some (.func a b c) := by
  unfold isFuncT at h; split at h
  · rename_i a b c he; exact ⟨a, b, c, he⟩
  · simp at h
theorem isU8_spec {t : TypeId} (h : isU8 P t = true) : P.underlying t = some (.int .u8) := by
  unfold isU8 at h; split at h
  · assumption
  · simp at h

theorem eqGuard_plain (op : BinOp) (t : TypeId) (x y : Operand) (u v : Value) (h1 : u ≠ .nilIface) (h2 : ∀ cs, u ≠ .agg cs) : eqGuard op t x y u v = pure () := by
  unfold eqGuard
  cases op <;> first
    | rfl
    | (cases u <;> first | rfl | (exact absurd rfl h1) | (exact absurd rfl (h2 _)))

theorem con_sx [Sy] {k : IntKind} {e : SE} {v : Value} (h : con ρ (.sx k e) = some v) : ∃ n, e.eval = some n ∧ v = .int k n := by
  simp only [con, Option.map_eq_some_iff] at h
  obtain ⟨n, h1, h2⟩ := h
  exact ⟨n, h1, h2.symm⟩

theorem sameK_refl (k : IntKind) : sameK k k = true := by cases k <;> rfl

theorem arith_int [Sy] {op : BinOp} {k : IntKind} {a b r : Int} (h : arith op k a b = some r) : intBin op k a k b = some (.int k r) := by
  cases op <;> simp only [arith, Option.some.injEq, reduceCtorEq] at h <;> simp only [intBin, sameK_refl]
  case quo =>
    split at h
    · cases h
    · rename_i hz; simp only [Option.some.injEq] at h; subst h; simp only [hz]
  case rem =>
    split at h
    · cases h
    · rename_i hz; simp only [Option.some.injEq] at h; subst h; simp only [hz]
  case shl =>
    split at h
    · simp only [Option.some.injEq] at h; subst h; rfl
    · cases h
  case shr =>
    split at h
    · simp only [Option.some.injEq] at h; subst h; rfl
    · cases h
  all_goals (subst h; rfl)

theorem arith_shf [Sy] {op : BinOp} {k : IntKind} {a : Int} {b : SE} {n : Int} (h : isShf op = true) (hl : litN b = true) (hb : b.eval = some n) (k' : IntKind) : ∃ r, arith op k a n = some r ∧ intBin op k a k' n = some (.int k r) := by
  unfold litN at hl
  split at hl
  · simp only [SE.eval, Option.some.injEq] at hb; subst hb
    cases op <;> simp only [isShf, Bool.false_eq_true] at h <;> exact ⟨_, rfl, rfl⟩
  · cases hl

theorem con_sxMk [Sy] {ρ : Ren} {k : IntKind} {e : SE} {n : Int} (h : e.eval = some n) : con ρ (sxMk k e) = some (.int k n) := by
  have hp : con ρ (.sx k e) = some (.int k n) := by simp only [con, h, Option.map_some]
  unfold sxMk
  split
  · rename_i lo hi hiv
    have hb := SE.iv_sound e hiv h
    split
    · rename_i he
      have he := eqI_t he
      have : lo = n := by omega
      subst this
      exact con_int' _ _ _
    · exact hp
  · exact hp

theorem cmp_int [Sy] {op : BinOp} {k : IntKind} {a b : Int} (h : isCmp op = true) : intBin op k a k b = some (.bool (cmpV op a b)) := by
  cases op <;> simp only [isCmp, Bool.false_eq_true] at h <;> simp only [intBin, sameK_refl, cmpV]

theorem arith_tot {op : BinOp} {k : IntKind} {a b : Int} (h : isAri op = true) : ∃ r, arith op k a b = some r := by
  cases op <;> simp only [isAri, Bool.false_eq_true] at h <;> exact ⟨_, rfl⟩

theorem arith_div {op : BinOp} {k : IntKind} {a b : Int} (h : isDiv op = true) (hb : eqI b 0 = false) : ∃ r, arith op k a b = some r := by
  cases op <;> simp only [isDiv, Bool.false_eq_true] at h <;> simp only [arith, hb] <;> exact ⟨_, rfl⟩

theorem ivCmp_sound [Sy] {op : BinOp} {a b : SE} {m n : Int} {t : Bool} (h : ivCmp op a.iv b.iv = some t) (ha : a.eval = some m) (hb : b.eval = some n) : cmpV op m n = t := by
  unfold ivCmp at h
  split at h
  · rename_i la ha' lb hb' ea eb
    have A := SE.iv_sound a ea ha
    have B := SE.iv_sound b eb hb
    exact cmpI_sound h A.1 A.2 B.1 B.2
  · cases h

theorem sxBin_sound [Sy] {op : BinOp} {k k' : IntKind} {a b : SE} {r : AV} {m n : Int} (h : sxBin op k a k' b = some r) (ha : a.eval = some m) (hb : b.eval = some n) : ∃ r', intBin op k m k' n = some r' ∧ con ρ r = con ρ r' := by
  unfold sxBin at h
  have shf : isShf op = true → litN b = true → r = sxMk k (simpE op k a b) → ∃ r', intBin op k m k' n = some r' ∧ con ρ r = con ρ r' := fun h1 h2 h3 => by
    subst h3
    obtain ⟨q, hq, hi⟩ := arith_shf (k := k) (a := m) h1 h2 hb k'
    exact ⟨_, hi, by rw [con_sxMk (n := q) (simpE_eval (by simp only [SE.eval, ha, hb, Option.bind_some, hq])), con_int']⟩
  split at h
  · split at h
    · rename_i h1
      split at h
      · rename_i h2
        exact shf h1 h2 (by simpa using h.symm)
      · cases h
    · cases h
  · rename_i hk
    have hk := sameK_eq hk
    subst hk
    split at h
    · rename_i hc
      unfold boolO at h
      split at h
      · rename_i t ht
        simp only [Option.some.injEq] at h; subst h
        exact ⟨_, cmp_int hc, by rw [cmpE_sound ht ha hb]⟩
      · cases h
    · split at h
      · rename_i hc
        simp only [Option.some.injEq] at h; subst h
        obtain ⟨q, hq⟩ := arith_tot (op := op) (k := k) (a := m) (b := n) hc
        exact ⟨_, arith_int hq, by rw [con_sxMk (n := q) (simpE_eval (by simp only [SE.eval, ha, hb, Option.bind_some, hq])), con_int']⟩
      · split at h
        · rename_i hc
          split at h
          · rename_i hz
            simp only [Option.some.injEq] at h; subst h
            have h0 : eqI n 0 = false := by
              have := ivCmp_sound (a := b) (b := .lit 0) (m := n) (n := 0) (op := .eql) (t := false) (by simpa only [SE.iv] using hz) hb rfl
              exact this
            obtain ⟨q, hq⟩ := arith_div (op := op) (k := k) (a := m) (b := n) hc h0
            exact ⟨_, arith_int hq, by rw [con_sxMk (n := q) (simpE_eval (by simp only [SE.eval, ha, hb, Option.bind_some, hq])), con_int']⟩
          · cases h
        · split at h
          · rename_i h1
            split at h
            · rename_i h2
              exact shf h1 h2 (by simpa using h.symm)
            · cases h
          · cases h

theorem byteRange_spec [Sy] {e : SE} (h : byteRange e = true) {n : Int} (hn : e.eval = some n) : 0 ≤ n ∧ n ≤ 255 := by
  unfold byteRange at h
  split at h
  · rename_i lo hi hiv
    have := SE.iv_sound e hiv hn
    split at h
    · rename_i hl
      have := leI_t hl; have := leI_t h
      omega
    · cases h
  · cases h

theorem eqByte_sound [Sy] {x y : AV} {b : Bool} (h : eqByte x y = some b) {m n : Nat} (hx : con ρ x = some (.int .u8 (.ofNat m))) (hy : con ρ y = some (.int .u8 (.ofNat n))) : Nat.beq (Nat.mod m 256) (Nat.mod n 256) = b := by
  have key : ∀ {c : Bool}, decide ((m : Int) % 256 = (n : Int) % 256) = c → Nat.beq (Nat.mod m 256) (Nat.mod n 256) = c := fun h => by
    rw [beq_dec, ← h, Bool.eq_iff_iff]
    simp only [decide_eq_true_eq]
    show m % 256 = n % 256 ↔ _
    omega
  unfold eqByte at h
  split at h
  · have e1 := con_int hx; have e2 := con_int hy
    simp only [Value.int.injEq, Int.ofNat.injEq] at e1 e2
    obtain ⟨_, rfl⟩ := e1; obtain ⟨_, rfl⟩ := e2
    simpa using h
  · obtain ⟨p, hp, e1⟩ := con_sx hx; obtain ⟨q, hq, e2⟩ := con_sx hy
    simp only [Value.int.injEq, Int.ofNat_eq_natCast] at e1 e2
    obtain ⟨_, e1⟩ := e1; obtain ⟨_, e2⟩ := e2
    split at h
    · rename_i hr
      have := relE_sound hr hp hq
      simp only [decide_eq_true_eq] at this
      simp only [Option.some.injEq] at h; subst h
      exact key (by rw [e1, e2, this]; simp)
    · rename_i hr
      have := relE_sound hr hp hq
      simp only [decide_eq_false_iff_not] at this
      split at h
      · rename_i ha
        split at h
        · rename_i hb
          have := byteRange_spec ha hp; have := byteRange_spec hb hq
          simp only [Option.some.injEq] at h; subst h
          exact key (by simp only [decide_eq_false_iff_not]; omega)
        · cases h
      · cases h
    · cases h
  · obtain ⟨p, hp, e1⟩ := con_sx hx; have e2 := con_int hy
    simp only [Value.int.injEq, Int.ofNat_eq_natCast] at e1 e2
    obtain ⟨_, e1⟩ := e1; obtain ⟨_, e2⟩ := e2
    split at h
    · rename_i ha
      have hb := byteRange_spec ha hp
      have := relE_sound h hp rfl
      refine key ?_
      rw [← this, Bool.eq_iff_iff]
      simp only [decide_eq_true_eq]
      show _ ↔ p = ((_ % 256 : Nat) : Int)
      omega
    · cases h
  · have e1 := con_int hx; obtain ⟨q, hq, e2⟩ := con_sx hy
    simp only [Value.int.injEq, Int.ofNat_eq_natCast] at e1 e2
    obtain ⟨_, e1⟩ := e1; obtain ⟨_, e2⟩ := e2
    split at h
    · rename_i ha
      have hb := byteRange_spec ha hq
      have := relE_sound h hq rfl
      refine key ?_
      rw [← this, Bool.eq_iff_iff]
      simp only [decide_eq_true_eq]
      show _ ↔ q = ((_ % 256 : Nat) : Int)
      omega
    · cases h
  · cases h

theorem bytesV_cons {v : Value} {l : List Value} {bs : List Nat} (h : bytesV (v :: l) = some bs) : ∃ n r, v = .int .u8 (.ofNat n) ∧ bytesV l = some r ∧ bs = n :: r := by
  unfold bytesV at h
  split at h
  · rename_i h0; cases h0
  · rename_i n l' h0
    cases h0
    simp only [Option.map_eq_some_iff] at h
    obtain ⟨r, h1, h2⟩ := h
    exact ⟨n, r, rfl, h1, h2.symm⟩
  · cases h

theorem strEq_len : ∀ {a b : List Nat}, strEq a b = true → a.length = b.length
  | [], [], _ => rfl
  | x :: a, y :: b, h => by
    simp only [strEq] at h
    split at h
    · simp [strEq_len h]
    · cases h
  | [], _ :: _, h => by simp [strEq] at h
  | _ :: _, [], h => by simp [strEq] at h

theorem bytesV_length : ∀ {vs : List Value} {bs : List Nat}, bytesV vs = some bs → bs.length = vs.length
  | [], bs, h => by simp only [bytesV, Option.some.injEq] at h; subst h; rfl
  | v :: l, bs, h => by
    obtain ⟨n, r, _, h1, rfl⟩ := bytesV_cons h
    simp [bytesV_length h1]

theorem eqBytes_sound [Sy] : ∀ {x y : List AV} {b : Bool} {us vs : List Value} {as bs : List Nat}, eqBytes x y = some b → conL ρ x = some us → conL ρ y = some vs → bytesV us = some as → bytesV vs = some bs → strEq as bs = b
  | [], [], b, us, vs, as, bs, h, h1, h2, h3, h4 => by
    simp only [conL, Option.some.injEq] at h1 h2
    subst h1; subst h2
    simp only [bytesV, Option.some.injEq] at h3 h4
    subst h3; subst h4
    simp only [eqBytes, Option.some.injEq] at h; subst h; rfl
  | x :: l, y :: m, b, us, vs, as, bs, h, h1, h2, h3, h4 => by
    obtain ⟨u, us', hu, hus, rfl⟩ := conL_cons.1 h1
    obtain ⟨v, vs', hv, hvs, rfl⟩ := conL_cons.1 h2
    obtain ⟨p, as', rfl, ha, rfl⟩ := bytesV_cons h3
    obtain ⟨q, bs', rfl, hb, rfl⟩ := bytesV_cons h4
    simp only [eqBytes] at h
    split at h
    · rename_i he
      simp only [strEq, eqByte_sound he hu hv]
      exact eqBytes_sound h hus hvs ha hb
    · rename_i he
      split at h
      · simp only [Option.some.injEq] at h; subst h
        simp only [strEq, eqByte_sound he hu hv]
      · cases h
    · cases h
  | [], _ :: _, b, us, vs, as, bs, h, _, _, _, _ => by simp [eqBytes] at h
  | _ :: _, [], b, us, vs, as, bs, h, _, _, _, _ => by simp [eqBytes] at h

theorem sstrBin_sound [Sy] {op : BinOp} {x y : List AV} {r : AV} {us vs : List Value} {as bs : List Nat} (h : sstrBin op x y = some r) (h1 : conL ρ x = some us) (h2 : conL ρ y = some vs) (h3 : bytesV us = some as) (h4 : bytesV vs = some bs) :
    strBin op as bs = some r := by
  have l1 := conL_length h1; have l2 := conL_length h2; have l3 := bytesV_length h3; have l4 := bytesV_length h4
  have hne : Nat.beq x.length y.length = false → strEq as bs = false := fun hh => by
    have hh := Nat.ne_of_beq_eq_false hh
    cases he : strEq as bs
    · rfl
    · have := strEq_len he; omega
  unfold sstrBin at h
  split at h
  · split at h
    · unfold boolO at h
      split at h
      · rename_i b hb
        simp only [strBin, eqBytes_sound hb h1 h2 h3 h4]; exact h
      · cases h
    · rename_i hl
      simp only [strBin, hne hl]; exact h
  · split at h
    · split at h
      · rename_i b hb
        simp only [strBin, eqBytes_sound hb h1 h2 h3 h4]; exact h
      · cases h
    · rename_i hl
      simp only [strBin, hne hl]; exact h
  · cases h

theorem byteAV_con [Sy] : ∀ l : List Nat, ∃ vs, conL ρ (l.map byteAV) = some vs ∧ bytesV vs = some (l.map fun n => Nat.mod n 256)
  | [] => ⟨[], conL_nil ρ, rfl⟩
  | n :: l => by
    obtain ⟨vs, h1, h2⟩ := byteAV_con l
    refine ⟨.int .u8 (.ofNat (Nat.mod n 256)) :: vs, conL_cons.2 ⟨_, _, con_int' _ _ _, h1, rfl⟩, ?_⟩
    simp only [bytesV, h2, Option.map_some, List.map_cons]

theorem bytesOf_mod (l : List Nat) : bytesOf (l.map fun n => Nat.mod n 256) = bytesOf l := by
  unfold bytesOf
  rw [List.map_map]
  congr 2
  apply List.map_congr_left
  intro n _
  show UInt8.ofNat (n % 256) = UInt8.ofNat n
  rw [ofNat_eq_iff]; omega

theorem binA_sound [Sy] (hr : Rep P N ρ σ w) (hg : Good ρ E ev o.op.operands.toList) {op : BinOp} {xt yt : TypeId} {x y : Operand} (ho : o.op = .binOp op xt x y yt) {a b : AV}
    (ha : E x = some a) (hb : E y = some b) (h : binA P E o op xt a b = some r) : VOk P N ρ σ w (execOp ev o) r := by
  have hx := hg.at (x := x) (by rw [ho]; simp [Op.operands]) ha
  have hy := hg.at (x := y) (by rw [ho]; simp [Op.operands]) hb
  have hexec : execOp ev o = (do let z ← (do eqGuard op xt x y (ev x) (ev y); binOp op xt (ev x) (ev y)); pure (.value z)) := by
    simp only [execOp, ho]
  have fin : (ev x ≠ .nilIface) → (∀ cs, ev x ≠ .agg cs) → (∃ z, con ρ r = some z ∧ (binOp op xt (ev x) (ev y)).run P w = .ok z w) → VOk P N ρ σ w (execOp ev o) r := by
    rintro h1 h2 ⟨z, hz, hrun⟩
    refine VOk.same hr hz ?_
    rw [hexec, eqGuard_plain op xt x y _ _ h1 h2]
    simp [hrun]
  unfold binA at h
  split at h
  · obtain e1 := con_int hx; obtain e2 := con_int hy
    refine fin (by rw [e1]; simp) (by rw [e1]; simp) ?_
    rw [e1, e2]; exact intBin_sound h
  · obtain ⟨m, hm, e1⟩ := con_sx hx; obtain e2 := con_int hy
    refine fin (by rw [e1]; simp) (by rw [e1]; simp) ?_
    obtain ⟨r', h1, h2⟩ := sxBin_sound (ρ := ρ) h hm rfl
    rw [e1, e2, h2]; exact intBin_sound h1
  · obtain e1 := con_int hx; obtain ⟨n, hn, e2⟩ := con_sx hy
    refine fin (by rw [e1]; simp) (by rw [e1]; simp) ?_
    obtain ⟨r', h1, h2⟩ := sxBin_sound (ρ := ρ) h rfl hn
    rw [e1, e2, h2]; exact intBin_sound h1
  · obtain ⟨m, hm, e1⟩ := con_sx hx; obtain ⟨n, hn, e2⟩ := con_sx hy
    refine fin (by rw [e1]; simp) (by rw [e1]; simp) ?_
    obtain ⟨r', h1, h2⟩ := sxBin_sound (ρ := ρ) h hm hn
    rw [e1, e2, h2]; exact intBin_sound h1
  · obtain e1 := con_str hx; obtain e2 := con_str hy
    refine fin (by rw [e1]; simp) (by rw [e1]; simp) ?_
    rw [e1, e2]; exact strBin_sound h
  · obtain ⟨us, as, h1, h2, e1⟩ := con_sstr hx; obtain ⟨vs, bs, h3, h4, e2⟩ := con_sstr hy
    refine fin (by rw [e1]; simp) (by rw [e1]; simp) ?_
    rw [e1, e2]; exact strBin_sound (sstrBin_sound h h1 h3 h2 h4)
  · rename_i l
    obtain ⟨us, as, h1, h2, e1⟩ := con_sstr hx; obtain e2 := con_str hy
    obtain ⟨vs, h3, h4⟩ := byteAV_con (ρ := ρ) l
    refine fin (by rw [e1]; simp) (by rw [e1]; simp) ?_
    rw [e1, e2, ← bytesOf_mod l]; exact strBin_sound (sstrBin_sound h h1 h3 h2 h4)
  · rename_i l _
    obtain e1 := con_str hx; obtain ⟨us, as, h1, h2, e2⟩ := con_sstr hy
    obtain ⟨vs, h3, h4⟩ := byteAV_con (ρ := ρ) l
    refine fin (by rw [e1]; simp) (by rw [e1]; simp) ?_
    rw [e1, e2, ← bytesOf_mod l]; exact strBin_sound (sstrBin_sound h h3 h1 h4 h2)
  · split at h
    · rename_i ht
      obtain ⟨e, he⟩ := isPtrT_spec ht
      obtain ⟨L, hL, e1⟩ := con_ptr hx
      obtain e2 := con_lit hy
      refine fin (by rw [e1]; simp) (by rw [e1]; simp) ?_
      rw [e1, e2]
      refine nilCmp_sound h ?_ rfl rfl
      exact equal_ptr_nil he _
    · simp at h
  · split at h
    · rename_i ht
      obtain ⟨e, he⟩ := isPtrT_spec ht
      obtain ⟨L, hL, e2⟩ := con_ptr hy
      obtain e1 := con_lit hx
      refine fin (by rw [e1]; simp) (by rw [e1]; simp) ?_
      rw [e1, e2]
      refine nilCmp_sound h ?_ rfl rfl
      exact equal_nil_ptr he _
    · simp at h
  · split at h
    · rename_i ht
      obtain ⟨e, he⟩ := isSliceT_spec ht
      obtain ⟨L, hL, e1⟩ := con_sl hx
      obtain e2 := con_lit hy
      refine fin (by rw [e1]; simp) (by rw [e1]; simp) ?_
      rw [e1, e2]
      refine nilCmp_sound h ?_ rfl rfl
      exact equal_sl_nil he _ _ _ _ _
    · simp at h
  · split at h
    · rename_i ht
      obtain ⟨e, he⟩ := isSliceT_spec ht
      obtain ⟨L, hL, e2⟩ := con_sl hy
      obtain e1 := con_lit hx
      refine fin (by rw [e1]; simp) (by rw [e1]; simp) ?_
      rw [e1, e2]
      refine nilCmp_sound h ?_ rfl rfl
      exact equal_nil_sl he _ _ _ _ _
    · simp at h
  · split at h
    · rename_i ht
      obtain ⟨k, e, he⟩ := isMapT_spec ht
      obtain e2 := con_lit hy
      simp only [con, Option.map_eq_some_iff] at hx
      obtain ⟨L, hL, e1⟩ := hx
      refine fin (by rw [← e1]; simp) (by rw [← e1]; simp) ?_
      rw [← e1, e2]
      refine nilCmp_sound h ?_ rfl rfl
      exact equal_map_nil he _
    · simp at h
  · split at h
    · rename_i ht
      obtain ⟨q1, q2, q3, he⟩ := isFuncT_spec ht
      obtain ⟨vs, us, _, _, e1⟩ := con_func hx
      obtain e2 := con_lit hy
      refine fin (by rw [e1]; simp) (by rw [e1]; simp) ?_
      rw [e1, e2]
      refine nilCmp_sound h ?_ rfl rfl
      exact equal_func_nil he _ _ _
    · simp at h
  · rename_i xs ys
    split at h
    · simp at h
    · rename_i hgt
      split at h
      · rename_i b he
        obtain ⟨us, hus, e1⟩ := con_agg hx
        obtain ⟨vs, hvs, e2⟩ := con_agg hy
        have hgd := run_eqGuard_agg (P := P) w op xt x y us.toArray vs.toArray hgt
        have heq := eqT_sound (P := P) (ρ := ρ) (w := w) 10000 xt _ _ _ _ _ he hx hy
        rw [e1, e2] at hexec heq
        split at h
        · simp only [Option.some.injEq] at h; subst h
          refine VOk.same hr (con_bool' _ _) ?_
          rw [hexec]
          simp only [Sem.run_bind, hgd, Result.andThen_ok, run_eql_struct, heq, Sem.run_pure]
        · simp only [Option.some.injEq] at h; subst h
          refine VOk.same hr (con_bool' _ _) ?_
          rw [hexec]
          simp only [Sem.run_bind, hgd, Result.andThen_ok, run_neq_struct, heq, Sem.run_pure]
        · simp at h
      · simp at h
  · exact pureA_sound hr hg (by rw [ho]; simp) h

end
end Go.Ev
