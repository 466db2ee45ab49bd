/- Single operations: slices built, made and appended to; no condition. -/
import Derived.Test.YtfobijiffcfnkaaDoorZAbs8
namespace Go.Ab

def chunk (sz : Nat) : Nat → List AV → List (List AV)
  | 0, _ => []
  | n + 1, cs => cs.take sz :: chunk sz n (cs.drop sz)

theorem chunk_length (sz : Nat) : ∀ (n : Nat) (cs : List AV), (chunk sz n cs).length = n
  | 0, _ => rfl
  | n + 1, cs => by simp [chunk, chunk_length sz n]

theorem chunk_get (sz : Nat) : ∀ (n : Nat) (cs : List AV) (i : Nat), (chunk sz n cs)[i]? = if i < n then some ((cs.drop (i * sz)).take sz) else none
  | 0, _, _ => by simp [chunk]
  | n + 1, cs, 0 => by simp [chunk]
  | n + 1, cs, i + 1 => by
    simp only [chunk, List.getElem?_cons_succ, chunk_get sz n, List.drop_drop]
    by_cases h : i < n
    · rw [if_pos h, if_pos (by omega), Nat.add_mul, Nat.one_mul, Nat.add_comm sz]
    · rw [if_neg h, if_neg (by omega)]

theorem idx_lt {n sz i j : Nat} (hi : i < n) (hj : j < sz) : i * sz + j < n * sz := by
  have := Nat.mul_le_mul_right sz (show i + 1 ≤ n from hi)
  rw [Nat.add_mul, Nat.one_mul] at this
  omega

theorem VRc.stripped {K : KM} {S : Stb} {w : World} {q : AV} {u : Value} (h : VRc K S w q u) (hp : q.strip.pureC = true) : PR S w q.strip u := by
  refine VRc.pure (K := K) ?_ hp
  cases q <;> simp only [AV.strip] at hp ⊢ <;> try exact h
  rename_i tok _
  cases tok with
  | none => exact h
  | some τ => simp only [VRc, VR0] at h ⊢; exact h.1

section ops
variable {P : Program} {tab : Tab} {nG : Nat} {G0 : Nat → Option Obj} {n0 : Nat} {o : Oper} {rd : List Nat} {tm0 : Nat → AV} {hp0 : Nat → Option Blk}

theorem snd_buildSlice {t e : TypeId} {ti ei : TI} {len id : Nat} {parts : Array (Nat × Operand)} {res : List AV} (ht : TIok P t ti) (hk : ti.kind = .slice e) (he : TIok P e ei) (hz : ei.size ≠ 0) (hle : len * ei.size ≤ 16777216)
    (ho : o.op = .buildSlice t len parts)
    (hf : fillA (fun i => some (i * ei.size, ei.size)) ((List.range (len * ei.size)).map fun k => (ei.cells.map zeroA).getD (k % ei.size) .dead) (parts.toList.map fun p => (p.1, evA tm0 p.2)) = some res)
    (hp : (res.map AV.strip).all AV.pureC = true) (hrd : id ∉ rd) :
    OpSnd P nG G0 n0 o (.sl ei.size false (some id) (chunk ei.size len (res.map AV.strip))) [(id, .grow ei.size len)] rd tm0 hp0 := by
  have hkk := ht.kind
  rw [hk] at hkk
  refine OpSnd.new hrd fun n K S tm hp' a w hr hxx _ => ?_
  obtain ⟨hz1, hz2⟩ := zero_cells (K := K) (S := S) (w := w) he
  have hzc : CellsAre K S w ((List.range (len * ei.size)).map fun k => (ei.cells.map zeroA).getD (k % ei.size) .dead) ((Array.range (len * ei.size)).map (ei.zeroV.cells[· % ei.zeroV.cells.size]!)) := by
    refine ⟨by simp, fun j y v hy hv => ?_⟩
    have hjl : j < len * ei.size := by have := (List.getElem?_eq_some_iff.1 hy).1; simpa using this
    rw [List.getElem?_map, List.getElem?_range hjl] at hy
    rw [Array.getElem?_map, Array.getElem?_range, if_pos hjl] at hv
    cases hy
    cases hv
    have hlt : j % ei.size < ei.size := Nat.mod_lt _ (by omega)
    rw [hz2]
    have hlt2 : j % ei.size < (ei.cells.map zeroA).length := by simp [he.len]; exact hlt
    refine hz1.cell (j % ei.size) _ _ ?_ ?_
    · show _ = some ((ei.cells.map zeroA).getD (j % ei.size) .dead)
      rw [List.getD_eq_getElem?_getD, List.getElem?_eq_getElem hlt2]; rfl
    · have hb : j % ei.size < ei.zeroV.cells.size := by omega
      simp [hb]
  obtain ⟨rs, k1, k2, k3⟩ := fill_sound (K := K) (S := S) (w := w) (parts.toList.map fun p => (p.1, evA tm0 p.2)) (parts.toList.map fun p => (p.1, a.eval p.2)) _ _ res (by simp) (fun j p q hp' hq => by
    rw [List.getElem?_map] at hp' hq
    cases hj : parts.toList[j]? with
    | none => rw [hj] at hp'; cases hp'
    | some z =>
      rw [hj] at hp' hq
      simp at hp' hq
      subst hp'; subst hq
      refine ⟨rfl, hxx z.2 ?_⟩
      rw [ho]
      simp only [Op.operands, List.mem_toArray, List.mem_map]
      exact ⟨z, List.mem_of_getElem? hj, rfl⟩) hzc hf
  have hrl : res.length = len * ei.size := by rw [k3]; simp
  have hrs : rs.size = len * ei.size := by rw [k2.size, hrl]
  refine ⟨.slice (some (ad w.heap.size 0)) len len, .cells rs e, .grow (some (w.heap.size, len)) ei.size len, len * ei.size, ?_, rfl, .inr ⟨_, _, _, rfl, Nat.le_refl _⟩, fun hK hS => ⟨?_, ?_⟩⟩
  · rw [execOp_eq ho]; unfold execOp
    have e2 : (parts.map fun (i, x) => (i, a.eval x)).toList = parts.toList.map fun p => (p.1, a.eval p.2) := by simp
    have hnl : ¬ (2 ^ 24 < len * ei.size) := by omega
    rcases Nat.eq_zero_or_pos (len * ei.size) with h0 | h0
    · have hr0 : Array.range 0 = #[] := rfl
      have k1' : Instr.fill (fun i => some (i * ei.size, ei.size)) #[] (parts.toList.map fun p => (p.1, a.eval p.2)) = some rs := by simpa [h0, hr0] using k1
      simp only [Instr.buildSlice, Sem.run_bind, run_under hkk, Result.andThen_ok, he.run_size, h0, if_true, Sem.run_pure, e2]
      simp [hr0, k1', newRow, ad]
    · have hne : ¬ (len * ei.size = 0) := by omega
      simp only [Instr.buildSlice, Sem.run_bind, run_under hkk, Result.andThen_ok, he.run_size, gt_iff_lt, hnl, if_false, hne, Sem.run_pure, he.run_zero, e2, k1]
      simp [newRow, ad]
  · exact ⟨rfl, rfl, Nat.le_refl _, rs, e, heap_alloc_eq _ _, hrs⟩
  · simp only [VR, VRa, VRc, VR0]
    refine ⟨?_, some (w.heap.size, len), len, by simp [updK], by rw [chunk_length]; exact Nat.le_refl _, fun _ => ⟨rfl, rfl⟩⟩
    have hcl := chunk_length ei.size len (res.map AV.strip)
    have := PR.sl (S := fun b off => S b off ∨ (b = w.heap.size ∧ off < len * ei.size)) (w := w.alloc (.cells rs e)) ei.size w.heap.size 0 len (chunk ei.size len (res.map AV.strip)) (fun i j => rs[i * ei.size + j]?.getD undef) (by omega) (fun i x hx => ?_) (fun i x j y hx hy => ?_) (fun i x j y hx hy => ?_)
    · rw [hcl] at this; exact this
    all_goals
      rw [chunk_get] at hx
      split at hx
      rotate_left
      · cases hx
      rename_i hi
      cases hx
    · simp
      have := idx_lt (n := len) (sz := ei.size) hi (show ei.size - 1 < ei.size from by omega)
      omega
    all_goals
      rw [List.getElem?_take] at hy
      split at hy
      rotate_left
      · cases hy
      rename_i hj
      rw [List.getElem?_drop, List.getElem?_map] at hy
      have hlt := idx_lt (n := len) hi hj
    · refine ⟨.inr ⟨rfl, by omega⟩, ?_⟩
      simp only [World.cell?, ad, heap_alloc_eq]
      simp [show i * ei.size + j < rs.size from by omega]
    · cases hq : res[i * ei.size + j]? with
      | none => rw [hq] at hy; cases hy
      | some q =>
        rw [hq] at hy
        simp at hy
        subst hy
        have hpp := List.all_eq_true.1 hp q.strip (List.mem_map.2 ⟨q, List.mem_of_getElem? hq, rfl⟩)
        refine PR.mono hS ((k2.cell _ q _ hq ?_).stripped hpp)
        simp [show i * ei.size + j < rs.size from by omega]

/-- The first cells of a slice. -/
theorem PR_first {S : Stb} {w : World} {sz : Nat} {nil : Bool} {xs : List (List AV)} {u : Value} (h : PR S w (.sl sz nil none xs) u) (hsz : 0 < sz) :
    ∃ base cap, ∃ cs : List Value, u = .slice base xs.length cap ∧ xs.length ≤ cap ∧ cs.length = xs.length * sz ∧ (∀ w', w'.heap = w.heap → (Builtin.firstCells sz xs.length u).run P w' = .ok cs.toArray w') ∧
      (∀ (i : Nat) (x : List AV) (j : Nat) (y : AV), xs[i]? = some x → x[j]? = some y → ∃ v, cs[i * sz + j]? = some v ∧ PR S w y v) ∧ (∀ v ∈ cs, v.oneCell' = true) ∧ nil = base.isNone ∧ (base = none → cap = 0) ∧ (∀ (i : Nat) (x : List AV), xs[i]? = some x → x.length = sz) := by
  cases h with
  | slNil => exact ⟨none, 0, [], rfl, Nat.le_refl _, by simp, fun w' _ => by simp [Builtin.firstCells], fun i x j y hx _ => by simp at hx, fun v hv => by simp at hv, rfl, fun _ => rfl, fun i x hx => by simp at hx⟩
  | slEmpty _ a cap => exact ⟨some a, cap, [], rfl, Nat.zero_le _, by simp, fun w' _ => by simp [Builtin.firstCells, loadCells, loadCellsFrom], fun i x j y hx _ => by simp at hx, fun v hv => by simp at hv, rfl, (fun h => by cases h), fun i x hx => by simp at hx⟩
  | sl _ b off cap _ f hcap hsl hc hv =>
    have hget : ∀ k, k < xs.length * sz → ∃ x y, xs[k / sz]? = some x ∧ x[k % sz]? = some y := by
      intro k hk
      have h1 : k / sz < xs.length := Nat.div_lt_of_lt_mul (by rw [Nat.mul_comm]; exact hk)
      have h2 := hsl _ _ (List.getElem?_eq_getElem h1)
      exact ⟨_, _, List.getElem?_eq_getElem h1, List.getElem?_eq_getElem (by rw [h2]; exact Nat.mod_lt _ hsz)⟩
    have hk : ∀ k, k / sz * sz + k % sz = k := fun k => by rw [Nat.mul_comm]; exact Nat.div_add_mod k sz
    refine ⟨some (ad b off), cap, (List.range (xs.length * sz)).map fun k => f (k / sz) (k % sz), rfl, hcap, by simp, fun w' hw' => ?_, fun i x j y hx hy => ?_, fun v hv' => ?_, rfl, (fun h => by cases h), hsl⟩
    · simp only [Builtin.firstCells]
      exact run_loadCells' P w' b off (fun k => f (k / sz) (k % sz)) _ fun k hk' => by
        obtain ⟨x, y, hx, hy⟩ := hget k hk'
        have := (hc _ x _ y hx hy).2
        rw [hk k] at this
        rw [← this]
        simp [World.cell?, ad, hw']
    · have hj : j < sz := by rw [← hsl i x hx]; exact (List.getElem?_eq_some_iff.1 hy).1
      have hi : i < xs.length := (List.getElem?_eq_some_iff.1 hx).1
      have hlt := idx_lt hi hj
      have e1 : (i * sz + j) / sz = i := by rw [Nat.mul_comm, Nat.mul_add_div hsz, Nat.div_eq_of_lt hj]; rfl
      have e2 : (i * sz + j) % sz = j := by rw [Nat.mul_comm, Nat.mul_add_mod, Nat.mod_eq_of_lt hj]
      refine ⟨f i j, ?_, hv i x j y hx hy⟩
      simp [hlt, e1, e2]
    · simp at hv'
      obtain ⟨k, hk', rfl⟩ := hv'
      obtain ⟨x, y, hx, hy⟩ := hget k hk'
      exact (hv _ x _ y hx hy).one.2

/-- The run of append: there is room. -/
theorem run_append_in {t e : TypeId} {ti ei : TI} (ht : TIok P t ti) (hk : ti.kind = .slice e) (he : TIok P e ei) {ty : TypeId} {base : Option Addr} {n m cap : Nat} {v : Value} {news : List Value} {w : World}
    (hlen : ∃ b' c', v = .slice b' m c') (hf : (Builtin.firstCells ei.size m v).run P w = .ok news.toArray w) (hle : n + m ≤ cap) :
    (Builtin.append_ #[t, t] ty #[.slice base n cap, v]).run P w = (match base with | some a => (storeCells (a.add (n * ei.size)) news).run P w | none => .ok () w).andThen fun _ w' => .ok (.slice base (n + m) cap) w' := by
  have hkk := ht.kind
  rw [hk] at hkk
  obtain ⟨b', c', rfl⟩ := hlen
  simp only [Builtin.append_]
  simp [run_under hkk, he.run_size, Builtin.lenOf, hle, hf]
  cases base <;> simp

theorem run_append_out {t e : TypeId} {ti ei : TI} (ht : TIok P t ti) (hk : ti.kind = .slice e) (he : TIok P e ei) (hbytes : ei.bytes ≠ 0) {ty : TypeId} {base : Option Addr} {n m cap : Nat} {v : Value} {olds news : List Value} {w : World}
    (hlen : ∃ b' c', v = .slice b' m c') (hf : (Builtin.firstCells ei.size m v).run P w.drew = .ok news.toArray w.drew) (hg : (Builtin.firstCells ei.size n (.slice base n cap)).run P w.drew = .ok olds.toArray w.drew)
    (hle : cap < n + m) (hfit : (n + m) * ei.bytes ≤ 140737488355328) :
    ∃ c rest, n + m ≤ c ∧ rest.size = (c - (n + m)) * ei.size ∧ (Builtin.append_ #[t, t] ty #[.slice base n cap, v]).run P w = .ok (.slice (some (ad w.heap.size 0)) (n + m) c) (w.drew.alloc (.cells (olds.toArray ++ news.toArray ++ rest) e)) := by
  have hkk := ht.kind
  rw [hk] at hkk
  obtain ⟨b', c', rfl⟩ := hlen
  obtain ⟨i, hi, hi2, hi3, hi4⟩ := he.info
  have hti : (typeInfo e).run P w = .ok i w := by simp [typeInfo, hi]
  have hti' : (typeInfo e).run P w.drew = .ok i w.drew := by simp [typeInfo, hi]
  have hgs := growslice_fits (bytes := ei.bytes) hle hfit
  refine ⟨(Question.appendCap (n + m) cap e).cut (w.tape w.drawn (.appendCap (n + m) cap e)), Builtin.zeroCells ei.zeroV.cells ((Question.appendCap (n + m) cap e).cut (w.tape w.drawn (.appendCap (n + m) cap e)) - (n + m)), by simp [Question.cut], ?_, ?_⟩
  · simp [Builtin.zeroCells, (zero_cells (K := fun _ => none) (S := fun _ _ => True) (w := w) he).2]
  · have hnf : (Question.appendCap (n + m) cap e).forced = false := rfl
    have hdrew : ({ w with drawn := w.drawn + 1 } : World) = w.drew := rfl
    simp only [Builtin.append_]
    simp [run_under hkk, he.run_size, he.run_zero, Builtin.lenOf, Nat.not_le.2 hle, hti, hti', hi3, hbytes, hf, hg, hnf, Nat.not_lt.2 hgs, newRow, ad]
    rw [← Array.append_assoc]
    simp

theorem cell_arr {w : World} {b : Nat} {arr : Array Value} {e : TypeId} {fr : Nat × Nat} (h : w.heap[b]? = some (.cells arr e fr)) (off : Nat) : w.cell? (ad b off) = arr[off]? := by
  simp [World.cell?, ad, h]

/-- APPEND. 'loc': where the slice lies; 'τ': its block of the abstract heap, old or new. -/
theorem append_core {t e : TypeId} {ti ei : TI} (ht : TIok P t ti) (hk : ti.kind = .slice e) (he : TIok P e ei) (hz : ei.size ≠ 0) (hbytes : ei.bytes ≠ 0) {x y : Operand} {τ : Nat} {nil nil2 : Bool} {xs ys : List (List AV)}
    (ho : o.op = .call { callee := .builtin .append, args := #[x, y], argTypes := #[t, t] }) (hfit : (xs.length + ys.length) * ei.bytes ≤ 140737488355328)
    {n : Nat} {K : KM} {S : Stb} {tm : Nat → AV} {hp : Nat → Option Blk} {a : Act} {w : World} (hr : RelF nG G0 n K S tm hp a w)
    (hx : PR S w (.sl ei.size nil none xs) (a.eval x)) (hy : PR S w (.sl ei.size nil2 none ys) (a.eval y)) {loc : Option (Nat × Nat)} (hloc : locMatch loc (a.eval x))
    (hτ : (K τ = some (.grow loc ei.size xs.length) ∧ hp τ = some (.grow ei.size xs.length)) ∨ (hp τ = none ∧ n0 ≤ τ ∧ loc = none)) (hn0 : n0 ≤ τ ∨ K τ ≠ none)
    (next : Act → World → Prop) (QC : Exit → Act → World → Prop)
    (hn : ∀ u w' K' S', VR K' S' w' (.sl ei.size (nil && ys.isEmpty) (some τ) (xs ++ ys)) u → HRel nG G0 K' S' (updH hp [(τ, .grow ei.size (xs.length + ys.length))]) w' → Ext n0 K S w K' S' w' → KLe K K' → next (a.put o.dst u) w') :
    o.wp P a w next QC := by
  have hsz : 0 < ei.size := by omega
  obtain ⟨base, cap, olds, hu, hcap, hol, hofc, hoc, ho1, hnil, hb0, hxl⟩ := PR_first (P := P) hx hsz
  obtain ⟨base2, cap2, news, hv, hcap2, hnl, hnfc, hnc, hn1, hnil2, _, hyl⟩ := PR_first (P := P) hy hsz
  rw [hu] at hloc hofc
  have hgrowK : ∀ ki, K τ = some ki → ki = .grow loc ei.size xs.length := by
    intro ki hki
    rcases hτ with ⟨h1, _⟩ | ⟨h1, _⟩
    · rw [h1] at hki; cases hki; rfl
    · rw [hr.heap.dom_none h1] at hki; cases hki
  have hKnone : K τ = none → n0 ≤ τ := fun h => hn0.resolve_right (fun h' => h' h)
  have hlen : (xs ++ ys).length = xs.length + ys.length := List.length_append
  -- what the result reads as, wherever it lies
  have hPR : ∀ (S' : Stb) (w' : World) (b c : Nat), Kept S w S' w' → xs.length + ys.length ≤ c → (∀ off, off < (xs.length + ys.length) * ei.size → S' b off) →
      (∀ k, k < xs.length * ei.size → w'.cell? (ad b k) = olds[k]?) → (∀ k, k < ys.length * ei.size → w'.cell? (ad b (xs.length * ei.size + k)) = news[k]?) →
      PR S' w' (.sl ei.size false none (xs ++ ys)) (.slice (some (ad b 0)) (xs.length + ys.length) c) := by
    intro S' w' b c hkept hc hst hco hcn
    have key : ∀ (i : Nat) (z : List AV) (j : Nat) (q : AV), (xs ++ ys)[i]? = some z → z[j]? = some q → ∃ v, w'.cell? (ad b (i * ei.size + j)) = some v ∧ PR S' w' q v ∧ S' b (i * ei.size + j) := by
      intro i z j q hz' hq
      by_cases hi : i < xs.length
      · rw [List.getElem?_append_left hi] at hz'
        have hj : j < ei.size := by rw [← hxl i z hz']; exact (List.getElem?_eq_some_iff.1 hq).1
        have hlt := idx_lt hi hj
        obtain ⟨v, h1, h2⟩ := hoc i z j q hz' hq
        refine ⟨v, by rw [hco _ hlt, h1], h2.mono hkept, hst _ ?_⟩
        have := Nat.mul_le_mul_right ei.size (show xs.length ≤ xs.length + ys.length from Nat.le_add_right _ _)
        omega
      · rw [List.getElem?_append_right (by omega)] at hz'
        have hj : j < ei.size := by rw [← hyl _ z hz']; exact (List.getElem?_eq_some_iff.1 hq).1
        have hi2 : i - xs.length < ys.length := (List.getElem?_eq_some_iff.1 hz').1
        have hlt := idx_lt hi2 hj
        obtain ⟨v, h1, h2⟩ := hnc _ z j q hz' hq
        have e1 : i * ei.size + j = xs.length * ei.size + ((i - xs.length) * ei.size + j) := by
          have : i = xs.length + (i - xs.length) := by omega
          conv => lhs; rw [this, Nat.add_mul]
          omega
        refine ⟨v, by rw [e1, hcn _ hlt, h1], h2.mono hkept, hst _ ?_⟩
        rw [e1, Nat.add_mul]
        omega
    have hcl : ∀ (i : Nat) (z : List AV), (xs ++ ys)[i]? = some z → z.length = ei.size := by
      intro i z hz'
      by_cases hi : i < xs.length
      · rw [List.getElem?_append_left hi] at hz'; exact hxl i z hz'
      · rw [List.getElem?_append_right (by omega)] at hz'; exact hyl _ z hz'
    have := PR.sl (S := S') (w := w') ei.size b 0 c (xs ++ ys) (fun i j => (w'.cell? (ad b (i * ei.size + j))).getD undef) (by rw [hlen]; exact hc) hcl (fun i z j q hz' hq => ?_) (fun i z j q hz' hq => ?_)
    · rw [hlen] at this; exact this
    · obtain ⟨v, h1, _, h3⟩ := key i z j q hz' hq
      rw [Nat.zero_add]
      exact ⟨h3, by rw [h1]; rfl⟩
    · obtain ⟨v, h1, h2, _⟩ := key i z j q hz' hq
      rw [h1]; exact h2
  have hrun0 : (execOp a.eval o).run P w = ((Builtin.append_ #[t, t] o.type #[.slice base xs.length cap, a.eval y]).run P w).andThen fun u w' => .ok (.value u) w' := by
    rw [run_builtin ho]
    simp [builtin, hu]
  unfold Oper.wp
  rw [hrun0]
  by_cases hroom : xs.length + ys.length ≤ cap
  · -- there is room
    rw [run_append_in ht hk he ⟨base2, cap2, hv⟩ (hnfc w rfl) hroom]
    cases base with
    | none =>
      have hc0 := hb0 rfl
      obtain ⟨hxe, hye⟩ : xs = [] ∧ ys = [] := ⟨List.eq_nil_of_length_eq_zero (by omega), List.eq_nil_of_length_eq_zero (by omega)⟩
      subst hxe; subst hye
      have hl0 : loc = none := by
        cases loc with
        | none => rfl
        | some l => obtain ⟨b, c⟩ := l; simp [locMatch] at hloc
      subst hl0
      have hn1 : nil = true := by simpa using hnil
      subst hn1
      obtain ⟨g1, g2, g3⟩ := hr.heap.gen (n0 := n0) (w' := w) (id := τ) (ki' := .grow none ei.size 0) (bl := .grow ei.size 0) (S' := S) rfl rfl rfl (Nat.le_refl _) (fun _ _ _ => rfl) (fun b hb => by simp [KI.blk] at hb) (fun _ _ _ => rfl) (fun _ _ h => h) (fun _ _ h => .inl h)
        (fun ki hki => by rw [hgrowK ki hki]; exact ⟨rfl, .inl ⟨rfl, rfl⟩⟩) hKnone ⟨rfl, rfl, rfl⟩
      simp only [Result.andThen_ok, Oper.upon_value]
      refine hn _ _ _ _ ?_ g1 g2 g3
      simp only [VR, VRa, VRc, VR0]
      rw [hc0]
      exact ⟨.slNil _, none, 0, by simp [updK], Nat.le_refl _, fun _ => trivial⟩
    | some ad0 =>
      have hn1 : nil = false := by simpa using hnil
      subst hn1
      cases loc with
      | none => simp [locMatch] at hloc
      | some l =>
      obtain ⟨b, c⟩ := l
      simp only [locMatch] at hloc
      obtain ⟨rfl, rfl⟩ := hloc
      obtain ⟨hK, hhp⟩ : K τ = some (.grow (some (b, cap)) ei.size xs.length) ∧ hp τ = some (.grow ei.size xs.length) := by
        rcases hτ with h | ⟨_, _, h⟩
        · exact h
        · cases h
      obtain ⟨_, _, hle, arr, e', hheap, harr⟩ := hr.heap.blk τ _ _ hhp hK
      have hmul : (xs.length + ys.length) * ei.size ≤ cap * ei.size := Nat.mul_le_mul_right _ hroom
      rw [Nat.add_mul] at hmul
      have hblt : b < w.heap.size := (Array.getElem?_eq_some_iff.1 hheap).1
      obtain ⟨arr', k1, k2, k3⟩ := run_storeCells' P b (xs.length * ei.size) e' news 0 arr w hheap (by omega) hn1
      have hrun : (storeCells ((ad b 0).add (xs.length * ei.size)) news).run P w = .ok () (putB w b (.cells arr' e' (0, 0))) := by
        rw [ad_add, Nat.zero_add]; exact k1
      simp only [hrun, Result.andThen_ok, Oper.upon_value]
      have hout : ∀ b' off, S b' off → (putB w b (.cells arr' e' (0, 0))).cell? (ad b' off) = w.cell? (ad b' off) := by
        intro b' off hs
        by_cases hb : b' = b
        · subst hb
          obtain ⟨l, sz, n', he', hlt⟩ := hr.heap.apart b' off τ _ hs hK rfl
          cases he'
          rw [cell_arr (putB_heap _ _ _ hblt), cell_arr hheap, k3, if_neg (by omega)]
        · exact cell_of_heap (putB_heap_ne _ _ _ _ hb)
      have hkept : Kept S w (fun b' off => S b' off ∨ (b' = b ∧ off < (xs.length + ys.length) * ei.size)) (putB w b (.cells arr' e' (0, 0))) := by
        refine ⟨fun _ _ h => .inl h, hout, fun b' hs => putB_heap_ne _ _ _ _ ?_⟩
        rintro rfl
        exact hr.heap.whole_apart hs hK rfl
      obtain ⟨g1, g2, g3⟩ := hr.heap.gen (n0 := n0) (w' := putB w b (.cells arr' e' (0, 0))) (id := τ) (ki' := .grow (some (b, cap)) ei.size (xs.length + ys.length)) (bl := .grow ei.size (xs.length + ys.length))
        (S' := fun b' off => S b' off ∨ (b' = b ∧ off < (xs.length + ys.length) * ei.size)) rfl rfl rfl (Nat.le_of_eq (putB_size _ _ _).symm)
        (fun b' hb' hne => putB_heap_ne _ _ _ _ (fun hbb => hne _ hK (by rw [hbb]; rfl))) (fun b' hb' => by cases hb'; exact .inl ⟨_, hK, rfl⟩) hout (fun _ _ h => .inl h)
        (fun b' off hs => by
          rcases hs with hs | ⟨rfl, hlt⟩
          · exact .inl hs
          · exact .inr ⟨rfl, _, _, _, rfl, hlt⟩)
        (fun ki hki => by
          rw [hgrowK ki hki]
          refine ⟨rfl, ?_⟩
          rcases Nat.eq_zero_or_pos ys.length with h0 | h0
          · exact .inl ⟨by omega, rfl⟩
          · exact .inr (by omega)) hKnone
        ⟨rfl, rfl, hroom, arr', e', putB_heap _ _ _ hblt, by omega⟩
      refine hn _ _ _ _ ?_ g1 g2 g3
      simp only [VR, VRa, VRc, VR0, Bool.false_and]
      refine ⟨hPR _ _ b cap hkept hroom (fun off h => .inr ⟨rfl, h⟩) (fun k hk' => ?_) (fun k hk' => ?_), some (b, cap), xs.length + ys.length, by simp [updK], by rw [hlen]; exact Nat.le_refl _, fun _ => ⟨rfl, rfl⟩⟩
      · rw [cell_arr (putB_heap _ _ _ hblt), k3, if_neg (by omega)]
        -- the old cells are those that were read
        obtain ⟨z, q, hz1, hq1⟩ : ∃ z q, xs[k / ei.size]? = some z ∧ z[k % ei.size]? = some q := by
          have h1 : k / ei.size < xs.length := Nat.div_lt_of_lt_mul (by rw [Nat.mul_comm]; exact hk')
          have h2 := hxl _ _ (List.getElem?_eq_getElem h1)
          exact ⟨_, _, List.getElem?_eq_getElem h1, List.getElem?_eq_getElem (by rw [h2]; exact Nat.mod_lt _ hsz)⟩
        have hfc := hofc w rfl
        simp only [Builtin.firstCells] at hfc
        rw [run_loadCells' P w b 0 (fun k => arr[k]?.getD undef) _ (fun j hj => by
          rw [cell_arr hheap, Nat.zero_add]
          simp [show j < arr.size from by omega])] at hfc
        cases hfc
        simp [hk', show k < arr.size from by omega]
      · rw [cell_arr (putB_heap _ _ _ hblt), k3, if_pos (by omega)]
        simp
  · -- a new array
    obtain ⟨c, rest, hc1, hrest, hrun⟩ := run_append_out (P := P) ht hk he hbytes (ty := o.type) (base := base) (n := xs.length) (m := ys.length) (cap := cap) (v := a.eval y) (olds := olds) (news := news) (w := w) ⟨base2, cap2, hv⟩ (hnfc _ rfl) (hofc _ rfl) (by omega) hfit
    rw [hrun]
    simp only [Result.andThen_ok, Oper.upon_value]
    have hmn : (xs.length + ys.length) * ei.size = xs.length * ei.size + ys.length * ei.size := Nat.add_mul _ _ _
    have hasz : (olds.toArray ++ news.toArray ++ rest).size = c * ei.size := by
      simp only [Array.size_append, List.size_toArray, hol, hnl, hrest]
      rw [← Nat.add_mul, ← Nat.add_mul]
      congr 1
      omega
    have hdr : ∀ b', b' < w.heap.size → (w.drew.alloc (.cells (olds.toArray ++ news.toArray ++ rest) e)).heap[b']? = w.heap[b']? := fun b' hb' => heap_alloc_lt w.drew _ b' hb'
    have hnew : (w.drew.alloc (.cells (olds.toArray ++ news.toArray ++ rest) e)).heap[w.heap.size]? = some (.cells (olds.toArray ++ news.toArray ++ rest) e) := heap_alloc_eq w.drew _
    have hkept : Kept S w (fun b' off => S b' off ∨ (b' = w.heap.size ∧ off < (xs.length + ys.length) * ei.size)) (w.drew.alloc (.cells (olds.toArray ++ news.toArray ++ rest) e)) :=
      ⟨fun _ _ h => .inl h, fun b' off hs => cell_of_heap (hdr b' (hr.heap.lt b' off hs)), fun b' hs => hdr b' (hr.heap.lt b' 0 (hs 0))⟩
    obtain ⟨g1, g2, g3⟩ := hr.heap.gen (n0 := n0) (w' := w.drew.alloc (.cells (olds.toArray ++ news.toArray ++ rest) e)) (id := τ) (ki' := .grow (some (w.heap.size, c)) ei.size (xs.length + ys.length)) (bl := .grow ei.size (xs.length + ys.length))
      (S' := fun b' off => S b' off ∨ (b' = w.heap.size ∧ off < (xs.length + ys.length) * ei.size)) rfl rfl rfl (by simp) (fun b' hb' _ => hdr b' hb') (fun b' hb' => by cases hb'; exact .inr (Nat.le_refl _))
      (fun b' off hs => cell_of_heap (hdr b' (hr.heap.lt b' off hs))) (fun _ _ h => .inl h)
      (fun b' off hs => by
        rcases hs with hs | ⟨rfl, hlt⟩
        · exact .inl hs
        · exact .inr ⟨rfl, _, _, _, rfl, hlt⟩)
      (fun ki hki => by
        rw [hgrowK ki hki]
        exact ⟨rfl, .inr (by omega)⟩) hKnone
      ⟨rfl, rfl, hc1, _, e, hnew, hasz⟩
    have hye : ys.isEmpty = false := by
      cases ys with
      | nil => simp at hroom; omega
      | cons => rfl
    refine hn _ _ _ _ ?_ g1 g2 g3
    simp only [VR, VRa, VRc, VR0, hye, Bool.and_false]
    refine ⟨hPR _ _ w.heap.size c hkept hc1 (fun off h => .inr ⟨rfl, h⟩) (fun k hk' => ?_) (fun k hk' => ?_), some (w.heap.size, c), xs.length + ys.length, by simp [updK], by rw [hlen]; exact Nat.le_refl _, fun _ => ⟨rfl, rfl⟩⟩
    · rw [cell_arr hnew, Array.append_assoc, Array.getElem?_append_left (by simp; omega)]
      simp
    · rw [cell_arr hnew, Array.getElem?_append_left (by simp; omega), Array.getElem?_append_right (by simp; omega)]
      simp [hol]

theorem snd_append_tok {t e : TypeId} {ti ei : TI} (ht : TIok P t ti) (hk : ti.kind = .slice e) (he : TIok P e ei) (hz : ei.size ≠ 0) (hbytes : ei.bytes ≠ 0) {x y : Operand} {τ m : Nat} {nil nil2 : Bool} {tok2 : Option Nat} {xs ys : List (List AV)}
    (ho : o.op = .call { callee := .builtin .append, args := #[x, y], argTypes := #[t, t] }) (hfit : (xs.length + ys.length) * ei.bytes ≤ 140737488355328)
    (hx : evA tm0 x = .sl ei.size nil (some τ) xs) (hy : evA tm0 y = .sl ei.size nil2 tok2 ys) (hb : hp0 τ = some (.grow ei.size m)) (hm : xs.length = m) (hrd : τ ∈ rd) :
    OpSnd P nG G0 n0 o (.sl ei.size (nil && ys.isEmpty) (some τ) (xs ++ ys)) [(τ, .grow ei.size (m + ys.length))] rd tm0 hp0 := by
  subst hm
  intro n K S tm hp a w hr hxx hh hws next QC hn
  have hX := hx ▸ hxx x (by rw [ho]; simp [Op.operands, Call.operands]) ▸ hr.ev x
  have hY := hy ▸ hxx y (by rw [ho]; simp [Op.operands, Call.operands]) ▸ hr.ev y
  obtain ⟨loc, n', hK, hle, hl⟩ := VR_tok hX
  have hhp := (hh τ hrd).trans hb
  obtain ⟨_, hn', _⟩ := hr.heap.blk τ _ _ hhp hK
  subst hn'
  exact append_core ht hk he hz hbytes ho hfit hr (VR_sl hX) (VR_sl hY) (hl rfl) (.inl ⟨hK, hhp⟩) (.inr (by rw [hK]; simp)) next QC hn

theorem snd_append_nil {t e : TypeId} {ti ei : TI} (ht : TIok P t ti) (hk : ti.kind = .slice e) (he : TIok P e ei) (hz : ei.size ≠ 0) (hbytes : ei.bytes ≠ 0) {x y : Operand} {τ : Nat} {nil2 : Bool} {tok2 : Option Nat} {ys : List (List AV)}
    (ho : o.op = .call { callee := .builtin .append, args := #[x, y], argTypes := #[t, t] }) (hfit : ys.length * ei.bytes ≤ 140737488355328)
    (hx : evA tm0 x = .nils ∨ ∃ tok, evA tm0 x = .sl ei.size true tok []) (hy : evA tm0 y = .sl ei.size nil2 tok2 ys) (hrd : τ ∉ rd) :
    OpSnd P nG G0 n0 o (.sl ei.size ys.isEmpty (some τ) ys) [(τ, .grow ei.size ys.length)] rd tm0 hp0 := by
  intro n K S tm hp a w hr hxx hh hws next QC hn
  obtain ⟨hid, hn0⟩ : hp τ = none ∧ n0 ≤ τ := (hws (τ, .grow ei.size ys.length) (by simp)).resolve_left hrd
  have hX := hxx x (by rw [ho]; simp [Op.operands, Call.operands]) ▸ hr.ev x
  have hY := hy ▸ hxx y (by rw [ho]; simp [Op.operands, Call.operands]) ▸ hr.ev y
  have hu : a.eval x = .slice none 0 0 := by
    rcases hx with hx | ⟨tok, hx⟩
    · rw [hx] at hX; exact VR_nils hX
    · rw [hx] at hX
      have := VR_sl hX
      generalize a.eval x = u at this
      cases this; rfl
  have hP : PR S w (.sl ei.size true none []) (a.eval x) := by rw [hu]; exact .slNil _
  refine append_core (xs := []) ht hk he hz hbytes ho (by simpa using hfit) hr hP (VR_sl hY) (loc := none) (by rw [hu]; trivial) (.inr ⟨hid, hn0, rfl⟩) (.inl hn0) next QC ?_
  simpa using hn
end ops
end Go.Ab
