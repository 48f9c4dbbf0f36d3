import Derived.Test.YtinhlmelicmheaaGreatEv14
namespace Go.Ev
open Go

section
variable {P : Program} {N : Nat} {ρ : Ren} {σ : Heap} {w : World} {E : Operand → Option AV} {o : Oper}

theorem strCells_con [Sy] (l : List Nat) : conL ρ (l.map fun n => AV.int .u8 (.ofNat (Nat.mod n 256))) = some (l.map fun n => Value.int .u8 (Int.ofNat (Nat.mod n 256))) := by
  induction l with
  | nil => exact conL_nil ρ
  | cons y l ih => exact conL_cons.2 ⟨_, _, con_int' _ _ _, ih, rfl⟩

theorem strCells_first (l : List Nat) (size : Nat) (W : World) : (Builtin.firstCells size l.length (.string (bytesOf l))).run P W = .ok (l.map fun n => Value.int .u8 (Int.ofNat (Nat.mod n 256))).toArray W := by
  simp only [Builtin.firstCells, Sem.run_pure]
  congr 1
  have h1 : (bytesOf l).extract 0 l.length = bytesOf l := by
    unfold bytesOf; rw [ByteArray.extract_mk]; simp [List.take_of_length_le]
  rw [h1]
  apply Array.ext'
  simp only [bytesOf, List.map_toArray, List.map_map]
  apply List.map_congr_left
  intro y _
  simp [UInt8.toNat_ofNat']
  rfl

theorem newCellsA_app [Sy] (hr : Rep P N ρ σ w) {xt : TypeId} {d : TypeDesc} (hd : P.underlying xt = some d) (hne : ∀ k, d ≠ .int k) {i : TypeInfo} {zc : Array Value} {x : AV} {xv : Value} {n : Nat} {new : List AV}
    (h : newCellsA P σ i.size x = some (n, new)) (hx : con ρ x = some xv) : ∃ news, conL ρ new = some news ∧ news.length = n * i.size ∧ AppX P w xt xv i zc n news := by
  unfold newCellsA at h
  split at h
  · rename_i b off len cap sp
    obtain ⟨L, hL, rfl⟩ := con_sl hx
    split at h
    · rename_i l hl
      simp only [Option.some.injEq, Prod.mk.injEq] at h
      obtain ⟨rfl, rfl⟩ := h
      obtain ⟨vs, h1, h2, h3⟩ := rangeA_first (P := P) hr hl hL len (capOf L cap sp)
      exact ⟨vs, h1, h2, .inl ⟨d, hd, hne, fun W => by simp [Builtin.lenOf], h3⟩⟩
    · simp at h
  · rename_i m c
    obtain rfl := con_lit hx
    split at h
    · rename_i hm
      have hm' : m = 0 := Nat.eq_of_beq_eq_true hm
      subst hm'
      simp only [Option.some.injEq, Prod.mk.injEq] at h
      obtain ⟨rfl, rfl⟩ := h
      exact ⟨[], conL_nil ρ, by simp, .inl ⟨d, hd, hne, fun W => by simp [Builtin.lenOf], fun W _ => run_firstCells_none W _ _ _ _⟩⟩
    · simp at h
  · rename_i l
    obtain rfl := con_str hx
    split at h
    case h_2 => simp at h
    rename_i hone
    have hone' : i.size = 1 := Nat.eq_of_beq_eq_true hone
    simp only [Option.some.injEq, Prod.mk.injEq] at h
    obtain ⟨rfl, rfl⟩ := h
    exact ⟨_, strCells_con l, by simp [hone'], .inl ⟨d, hd, hne, fun W => by simp [Builtin.lenOf, size_bytesOf], fun W _ => strCells_first l _ W⟩⟩
  · simp at h

theorem zeroCells_list {zc : Array Value} (hpos : zc.size ≠ 0) (n : Nat) : (Builtin.zeroCells zc n).toList = (List.range (n * zc.toList.length)).map fun i => zc.toList.toArray[i % zc.toList.toArray.size]! := by
  simp [Builtin.zeroCells]

theorem zeros_app [Sy] {xt : TypeId} {k k' : IntKind} (hd : P.underlying xt = some (.int k)) {i : TypeInfo} {zv : Value} {z : List AV} (hz : conL ρ z = some zv.cells.toList) (hzl : zv.cells.size = i.size) {n : Nat} (hn : n ≤ 1048576) (hb : n * i.bytes ≤ 281474976710656) :
    ∃ news, conL ρ (repeatL z n) = some news ∧ news.length = n * i.size ∧ AppX P w xt (.int k' (n : Int)) i zv.cells n news := by
  by_cases hs : i.size = 0
  · have hz0 : z = [] := by
      have := conL_length hz
      rw [Array.length_toList, hzl, hs] at this
      exact List.eq_nil_of_length_eq_zero this.symm
    subst hz0
    have : ∀ n, repeatL ([] : List AV) n = [] := by intro n; induction n with
      | zero => rfl
      | succ n ih => simp [repeatL, ih]
    rw [this]
    exact ⟨[], conL_nil ρ, by simp [hs], .inr ⟨k, k', hd, rfl, hn, hb, by simp [hs]⟩⟩
  · have h1 := repeatL_con hz (by rw [Array.length_toList, hzl]; omega) n
    refine ⟨_, h1, by simp [hzl], .inr ⟨k, k', hd, rfl, hn, hb, ?_⟩⟩
    rw [← zeroCells_list (by rw [hzl]; exact hs)]
    by_cases hn0 : n = 0
    · subst hn0; simp [Builtin.zeroCells]
    · rw [if_neg (Nat.mul_ne_zero hn0 hs)]

theorem copyA_sound [Sy] (hr : Rep P N ρ σ w) {dt ty elem : TypeId} {rest : List TypeId} (ht : P.underlying dt = some (.slice elem)) {d s : AV} {r : AV} {σ' : Heap} (h : copyA P σ elem d s = some (r, σ')) {dv sv : Value}
    (hd : con ρ d = some dv) (hs : con ρ s = some sv) :
    ∃ v w', (Builtin.copy_ (dt :: rest).toArray ty #[dv, sv]).run P w = .ok v w' ∧ Ext P N ρ σ w ρ σ' w' ∧ con ρ r = some v := by
  unfold copyA at h
  split at h
  · simp at h
  · rename_i size hsz
    split at h
    · rename_i b off len cap sp
      obtain ⟨L, hL, rfl⟩ := con_sl hd
      split at h
      · rename_i b' off' len' cap' sp'
        obtain ⟨L', hL', rfl⟩ := con_sl hs
        split at h
        · rename_i l hl
          split at h
          · rename_i σ1 hst
            simp only [Option.some.injEq, Prod.mk.injEq] at h
            obtain ⟨rfl, rfl⟩ := h
            obtain ⟨vs, h1, h2, h3⟩ := rangeA_first (P := P) hr hl hL' len' (capOf L' cap' sp')
            obtain ⟨w', hrun, hext⟩ := storeCellsA_run hr hst h1 hL
            refine ⟨_, w', ?_, hext, con_int' _ _ _⟩
            have h3' := h3 w (fun _ => rfl)
            simp [Builtin.copy_, run_underlying ht, Builtin.lenOf, szOf_run hsz, h3', hrun, goInt]
          · simp at h
        · simp at h
      · rename_i n c
        obtain rfl := con_lit hs
        split at h
        · rename_i hn
          have hn' : n = 0 := Nat.eq_of_beq_eq_true hn
          subst hn'
          simp only [Option.some.injEq, Prod.mk.injEq] at h
          obtain ⟨rfl, rfl⟩ := h
          refine ⟨_, w, ?_, Ext.refl hr, con_int' _ _ _⟩
          simp [Builtin.copy_, run_underlying ht, Builtin.lenOf, szOf_run hsz, run_firstCells_none, storeCells, goInt]
        · simp at h
      · simp at h
    · rename_i n c
      obtain rfl := con_lit hd
      split at h
      · rename_i hn
        have hn' : n = 0 := Nat.eq_of_beq_eq_true hn
        subst hn'
        simp only [Option.some.injEq, Prod.mk.injEq] at h
        obtain ⟨rfl, rfl⟩ := h
        obtain ⟨L', hL', rfl⟩ := con_sl hs
        refine ⟨_, w, ?_, Ext.refl hr, con_int' _ _ _⟩
        simp [Builtin.copy_, run_underlying ht, Builtin.lenOf, szOf_run hsz, Builtin.firstCells, loadCells, loadCellsFrom, goInt]
      · rename_i hn
        have hn' : n = 0 := Nat.eq_of_beq_eq_true hn
        subst hn'
        simp only [Option.some.injEq, Prod.mk.injEq] at h
        obtain ⟨rfl, rfl⟩ := h
        obtain rfl := con_lit hs
        refine ⟨_, w, ?_, Ext.refl hr, con_int' _ _ _⟩
        simp [Builtin.copy_, run_underlying ht, Builtin.lenOf, szOf_run hsz, run_firstCells_none, goInt]
      · simp at h
    · simp at h

/-- What the evaluator says of calls is so. -/
def FOk [Sy] (P : Program) (N : Nat) (F : CallF) : Prop :=
  ∀ g as σ r σ', F g as σ = some (r, σ') →
    (∃ fn, P.funcs[g]? = some fn ∧ fn.name ≠ "runtime.NumGoroutine" ∧ fn.body.isSome = true) ∧
    ∀ ρ w vs, Rep P N ρ σ w → conL ρ as = some vs →
      Calls P g vs.toArray w fun e w' => ∃ v ρ', e = .returned v ∧ Ext P N ρ σ w ρ' σ' w' ∧ con ρ' r = some v

theorem run_callFunc {g : FuncId} {fn : Func} (h1 : P.funcs[g]? = some fn) (h2 : fn.name ≠ "runtime.NumGoroutine") (h3 : fn.body.isSome = true) (args : Array Value) : (callFunc g args).run P w = .ok (.enter g args) w := by
  simp [callFunc, h1, h2]
  intro hb; simp [hb] at h3

theorem e_call_sound [Sy] {F : CallF} {a : Act} (hF : FOk P N F) (hr : Rep P N ρ σ w) (hg : Good ρ E a.eval o.op.operands.toList) {c : Call} {r : AV} {σ' : Heap} (ho : o.op = .call c)
    (h : e_call P F E σ c = some (r, σ')) : EOk P N ρ σ w o a r σ' := by
  have hexec : execOp a.eval o = (do let d ← resolve a.eval c o.type; invoke d.target d.args) := by simp only [execOp, ho]
  have hargsG : Good ρ E a.eval c.args.toList := fun y hy => hg y (by rw [ho]; simp [Op.operands, Call.operands]; right; simpa using hy)
  unfold e_call at h
  split at h
  · -- append
    rename_i hcal
    split at h
    · rename_i s x hargs
      have hargs' : c.args = #[s, x] := by apply Array.ext'; simp [hargs]
      have hs : ∀ v, E s = some v → con ρ v = some (a.eval s) := fun v hv => hargsG s (by simp [hargs]) v hv
      have hx : ∀ v, E x = some v → con ρ v = some (a.eval x) := fun v hv => hargsG x (by simp [hargs]) v hv
      split at h
      · rename_i st xt hat
        have hat' : c.argTypes = #[st, xt] := by apply Array.ext'; simp [hat]
        have fin : ∀ v w' ρ', (Builtin.append_ #[st, xt] o.type #[a.eval s, a.eval x]).run P w = .ok v w' → Ext P N ρ σ w ρ' σ' w' → con ρ' r = some v → EOk P N ρ σ w o a r σ' := by
          intro v w' ρ' hrun hext hcon K Q hK
          have : (execOp a.eval o).run P w = .ok (.value v) w' := by
            rw [hexec]; simp [resolve, hcal, hargs', hat', invoke, builtin, hrun]
          simp only [Oper.wp, this, Oper.upon]
          exact hK ρ' v w' hext hcon
        split at h
        · rename_i elem hst
          split at h
          · rename_i kx hxt
            split at h
            · rename_i k n hex
              have ex := con_int (hx _ hex)
              split at h
              · rename_i sv hes
                split at h
                · rename_i z hz
                  obtain ⟨i', zv, hi', hzv, hzsc, hzcon⟩ := zeroL_cells hz
                  split at h
                  · rename_i hle
                    split at h
                    · rename_i i hi
                      have hii : i' = i := by rw [hi] at hi'; exact (Option.some.inj hi').symm
                      subst hii
                      split at h
                      · rename_i hby
                        have hzl : zv.cells.size = i'.size := by
                          unfold appendA at h
                          rw [hi] at h
                          simp only [hz] at h
                          split at h
                          · simp at h
                          · rename_i hh
                            rw [← Array.length_toList, conL_length (hzcon ρ)]
                            exact Nat.eq_of_beq_eq_true hh
                        obtain ⟨news, q1, q2, q3⟩ := zeros_app (P := P) (w := w) (ρ := ρ) (k' := k) hxt (hzcon ρ) hzl (ble_t hle) (ble_t hby)
                        obtain ⟨v, w', ρ', hrun, hext, hcon⟩ := appendA_sound (ty := o.type) (xt := xt) hr hst h hi hzv q3 q1 q2 (hs _ hes)
                        rw [ex] at fin
                        exact fin v w' ρ' hrun hext hcon
                      · simp at h
                    · simp at h
                  · simp at h
                · simp at h
              · simp at h
            · simp at h
          · rename_i d hne hxt
            split at h
            · rename_i sv hes
              split at h
              · rename_i xv hex
                split at h
                · rename_i size hsz
                  split at h
                  · rename_i n new hnew
                    have hh := h
                    unfold appendA at hh
                    split at hh
                    · simp at hh
                    · rename_i i hi
                      have hsz' : size = i.size := by simp [szOf, hi] at hsz; exact hsz.symm
                      subst hsz'
                      split at hh
                      · simp at hh
                      · rename_i z hz
                        obtain ⟨i', zv, hi', hzv, hzsc, hzcon⟩ := zeroL_cells hz
                        rw [hi] at hi'; cases hi'
                        obtain ⟨news, q1, q2, q3⟩ := newCellsA_app (zc := zv.cells) hr hxt (fun k hk => hne k hk) hnew (hx _ hex)
                        obtain ⟨v, w', ρ', hrun, hext, hcon⟩ := appendA_sound (ty := o.type) (xt := xt) hr hst h hi hzv q3 q1 q2 (hs _ hes)
                        exact fin v w' ρ' hrun hext hcon
                  · simp at h
                · simp at h
              · simp at h
            · simp at h
          · simp at h
        · simp at h
      · simp at h
    · simp at h
  · -- copy
    rename_i hcal
    split at h
    · rename_i d s hargs
      have hargs' : c.args = #[d, s] := by apply Array.ext'; simp [hargs]
      have hd : ∀ v, E d = some v → con ρ v = some (a.eval d) := fun v hv => hargsG d (by simp [hargs]) v hv
      have hs : ∀ v, E s = some v → con ρ v = some (a.eval s) := fun v hv => hargsG s (by simp [hargs]) v hv
      split at h
      · rename_i dt rest hat
        have hat' : c.argTypes = (dt :: rest).toArray := by apply Array.ext'; simp [hat]
        split at h
        · rename_i elem hdt
          split at h
          · rename_i dv hed
            split at h
            · rename_i sv hes
              obtain ⟨v, w', hrun, hext, hcon⟩ := copyA_sound (ty := o.type) (rest := rest) hr hdt h (hd _ hed) (hs _ hes)
              intro K Q hK
              have : (execOp a.eval o).run P w = .ok (.value v) w' := by
                rw [hexec]
                simp only [resolve, hcal, hargs', hat', Sem.run_bind, Sem.run_pure, Result.andThen_ok, invoke, builtin]
                simp [hrun]
              simp only [Oper.wp, this, Oper.upon]
              exact hK ρ v w' hext hcon
            · simp at h
          · simp at h
        · simp at h
      · simp at h
    · simp at h
  · simp at h
  · -- a function
    split at h
    · rename_i g as hcal
      unfold calleeA at hcal
      split at hcal
      · rename_i f hcf
        split at hcal
        · rename_i g' xs ys hf
          split at hcal
          · rename_i as' has
            simp only [Option.some.injEq, Prod.mk.injEq] at hcal
            obtain ⟨rfl, rfl⟩ := hcal
            obtain ⟨vs, us, h1, h2, hfv⟩ := con_func (hg f (by rw [ho]; simp [Op.operands, Call.operands, hcf]) _ hf)
            have h3 := evos_con hargsG has
            obtain ⟨⟨fn, q1, q2, q3⟩, hcalls⟩ := hF _ _ _ _ _ h
            have hall : conL ρ (xs ++ as' ++ ys) = some (vs ++ c.args.toList.map a.eval ++ us) := conL_append (conL_append h1 h3) h2
            have hc := hcalls ρ w _ hr hall
            intro K Q hK
            have hrun : (execOp a.eval o).run P w = .ok (.enter g' (vs ++ c.args.toList.map a.eval ++ us).toArray) w := by
              rw [hexec]
              have e : (vs.toArray ++ c.args.map a.eval) ++ us.toArray = (vs ++ c.args.toList.map a.eval ++ us).toArray := by apply Array.ext'; simp
              simp only [resolve, hcf, hfv, Deferred.ofValue, Sem.run_bind, Sem.run_pure, Result.andThen_ok, invoke, run_callFunc q1 q2 q3, e]
            simp only [Oper.wp, hrun, Oper.upon]
            refine hc.mono ?_
            rintro e w' ⟨v, ρ', rfl, hext, hcon⟩
            exact hK ρ' v w' hext hcon
          · simp at hcal
        · simp at hcal
      · simp at hcal
    · simp at h

end
end Go.Ev
