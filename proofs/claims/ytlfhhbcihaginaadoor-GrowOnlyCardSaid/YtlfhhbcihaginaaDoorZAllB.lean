/- What the proofs of these laws lean on (2): Single operations: slices built, made and appended to; What a function's contract is, and how a call keeps it; A call keeps the heap's relation; Maps, their walks, new arrays; The step of a map's walk, new arrays; New arrays; The step of one operation, as a proposition that may be reckoned out; no condition. -/
import Derived.Test.YtlfhhbcihaginaaDoorZAllA
import Derived.MapKept
import Derived.Laws.MakeOwn
import Derived.Laws.NewFold
namespace Go.Ab

def chunk (sz : Nat) : Nat → List AV → List (List AV)
  | 0, _ => []
  | n + 1, cs => cs.take sz :: chunk sz n (cs.drop sz)

theorem chunk_length (sz : Nat) : ∀ (n : Nat) (cs : List AV), (chunk sz n cs).length = n
  | 0, _ => rfl
  | n + 1, cs => by simp [chunk, chunk_length sz n]

theorem chunk_get (sz : Nat) : ∀ (n : Nat) (cs : List AV) (i : Nat), (chunk sz n cs)[i]? = if i < n then some ((cs.drop (i * sz)).take sz) else none
  | 0, _, _ => by simp [chunk]
  | n + 1, cs, 0 => by simp [chunk]
  | n + 1, cs, i + 1 => by
    simp only [chunk, List.getElem?_cons_succ, chunk_get sz n, List.drop_drop]
    by_cases h : i < n
    · rw [if_pos h, if_pos (by omega), Nat.add_mul, Nat.one_mul, Nat.add_comm sz]
    · rw [if_neg h, if_neg (by omega)]

theorem idx_lt {n sz i j : Nat} (hi : i < n) (hj : j < sz) : i * sz + j < n * sz := by
  have := Nat.mul_le_mul_right sz (show i + 1 ≤ n from hi)
  rw [Nat.add_mul, Nat.one_mul] at this
  omega

theorem VRc.stripped {K : KM} {S : Stb} {w : World} {q : AV} {u : Value} (h : VRc K S w q u) (hp : q.strip.pureC = true) : PR S w q.strip u := by
  refine VRc.pure (K := K) ?_ hp
  cases q <;> simp only [AV.strip] at hp ⊢ <;> try exact h
  rename_i tok _
  cases tok with
  | none => exact h
  | some τ => simp only [VRc, VR0] at h ⊢; exact h.1

section ops
variable {P : Program} {tab : Tab} {nG : Nat} {G0 : Nat → Option Obj} {n0 : Nat} {o : Oper} {rd : List Nat} {tm0 : Nat → AV} {hp0 : Nat → Option Blk}

theorem snd_buildSlice {t e : TypeId} {ti ei : TI} {len id : Nat} {parts : Array (Nat × Operand)} {res : List AV} (ht : TIok P t ti) (hk : ti.kind = .slice e) (he : TIok P e ei) (hz : ei.size ≠ 0) (hle : len * ei.size ≤ 16777216)
    (ho : o.op = .buildSlice t len parts)
    (hf : fillA (fun i => some (i * ei.size, ei.size)) ((List.range (len * ei.size)).map fun k => (ei.cells.map zeroA).getD (k % ei.size) .dead) (parts.toList.map fun p => (p.1, evA tm0 p.2)) = some res)
    (hp : (res.map AV.strip).all AV.pureC = true) (hrd : id ∉ rd) :
    OpSnd P nG G0 n0 o (.sl ei.size false (some id) (chunk ei.size len (res.map AV.strip))) [(id, .grow ei.size len)] rd tm0 hp0 := by
  have hkk := ht.kind
  rw [hk] at hkk
  refine OpSnd.new hrd fun n K S tm hp' a w hr hxx _ => ?_
  obtain ⟨hz1, hz2⟩ := zero_cells (K := K) (S := S) (w := w) he
  have hzc : CellsAre K S w ((List.range (len * ei.size)).map fun k => (ei.cells.map zeroA).getD (k % ei.size) .dead) ((Array.range (len * ei.size)).map (ei.zeroV.cells[· % ei.zeroV.cells.size]!)) := by
    refine ⟨by simp, fun j y v hy hv => ?_⟩
    have hjl : j < len * ei.size := by have := (List.getElem?_eq_some_iff.1 hy).1; simpa using this
    rw [List.getElem?_map, List.getElem?_range hjl] at hy
    rw [Array.getElem?_map, Array.getElem?_range, if_pos hjl] at hv
    cases hy
    cases hv
    have hlt : j % ei.size < ei.size := Nat.mod_lt _ (by omega)
    rw [hz2]
    have hlt2 : j % ei.size < (ei.cells.map zeroA).length := by simp [he.len]; exact hlt
    refine hz1.cell (j % ei.size) _ _ ?_ ?_
    · show _ = some ((ei.cells.map zeroA).getD (j % ei.size) .dead)
      rw [List.getD_eq_getElem?_getD, List.getElem?_eq_getElem hlt2]; rfl
    · have hb : j % ei.size < ei.zeroV.cells.size := by omega
      simp [hb]
  obtain ⟨rs, k1, k2, k3⟩ := fill_sound (K := K) (S := S) (w := w) (parts.toList.map fun p => (p.1, evA tm0 p.2)) (parts.toList.map fun p => (p.1, a.eval p.2)) _ _ res (by simp) (fun j p q hp' hq => by
    rw [List.getElem?_map] at hp' hq
    cases hj : parts.toList[j]? with
    | none => rw [hj] at hp'; cases hp'
    | some z =>
      rw [hj] at hp' hq
      simp at hp' hq
      subst hp'; subst hq
      refine ⟨rfl, hxx z.2 ?_⟩
      rw [ho]
      simp only [Op.operands, List.mem_toArray, List.mem_map]
      exact ⟨z, List.mem_of_getElem? hj, rfl⟩) hzc hf
  have hrl : res.length = len * ei.size := by rw [k3]; simp
  have hrs : rs.size = len * ei.size := by rw [k2.size, hrl]
  refine ⟨.slice (some (ad w.heap.size 0)) len len, .cells rs e, .grow (some (w.heap.size, len)) ei.size len, len * ei.size, ?_, rfl, .inr ⟨_, _, _, rfl, Nat.le_refl _⟩, fun hK hS => ⟨?_, ?_⟩⟩
  · rw [execOp_eq ho]; unfold execOp
    have e2 : (parts.map fun (i, x) => (i, a.eval x)).toList = parts.toList.map fun p => (p.1, a.eval p.2) := by simp
    have hnl : ¬ (2 ^ 24 < len * ei.size) := by omega
    rcases Nat.eq_zero_or_pos (len * ei.size) with h0 | h0
    · have hr0 : Array.range 0 = #[] := rfl
      have k1' : Instr.fill (fun i => some (i * ei.size, ei.size)) #[] (parts.toList.map fun p => (p.1, a.eval p.2)) = some rs := by simpa [h0, hr0] using k1
      simp only [Instr.buildSlice, Sem.run_bind, run_under hkk, Result.andThen_ok, he.run_size, h0, if_true, Sem.run_pure, e2]
      simp [hr0, k1', newRow, ad]
    · have hne : ¬ (len * ei.size = 0) := by omega
      simp only [Instr.buildSlice, Sem.run_bind, run_under hkk, Result.andThen_ok, he.run_size, gt_iff_lt, hnl, if_false, hne, Sem.run_pure, he.run_zero, e2, k1]
      simp [newRow, ad]
  · exact ⟨rfl, rfl, Nat.le_refl _, rs, e, heap_alloc_eq _ _, hrs⟩
  · simp only [VR, VRa, VRc, VR0]
    refine ⟨?_, some (w.heap.size, len), len, by simp [updK], by rw [chunk_length]; exact Nat.le_refl _, fun _ => ⟨rfl, rfl⟩⟩
    have hcl := chunk_length ei.size len (res.map AV.strip)
    have := PR.sl (S := fun b off => S b off ∨ (b = w.heap.size ∧ off < len * ei.size)) (w := w.alloc (.cells rs e)) ei.size w.heap.size 0 len (chunk ei.size len (res.map AV.strip)) (fun i j => rs[i * ei.size + j]?.getD undef) (by omega) (fun i x hx => ?_) (fun i x j y hx hy => ?_) (fun i x j y hx hy => ?_)
    · rw [hcl] at this; exact this
    all_goals
      rw [chunk_get] at hx
      split at hx
      rotate_left
      · cases hx
      rename_i hi
      cases hx
    · simp
      have := idx_lt (n := len) (sz := ei.size) hi (show ei.size - 1 < ei.size from by omega)
      omega
    all_goals
      rw [List.getElem?_take] at hy
      split at hy
      rotate_left
      · cases hy
      rename_i hj
      rw [List.getElem?_drop, List.getElem?_map] at hy
      have hlt := idx_lt (n := len) hi hj
    · refine ⟨.inr ⟨rfl, by omega⟩, ?_⟩
      simp only [World.cell?, ad, heap_alloc_eq]
      simp [show i * ei.size + j < rs.size from by omega]
    · cases hq : res[i * ei.size + j]? with
      | none => rw [hq] at hy; cases hy
      | some q =>
        rw [hq] at hy
        simp at hy
        subst hy
        have hpp := List.all_eq_true.1 hp q.strip (List.mem_map.2 ⟨q, List.mem_of_getElem? hq, rfl⟩)
        refine PR.mono hS ((k2.cell _ q _ hq ?_).stripped hpp)
        simp [show i * ei.size + j < rs.size from by omega]

/-- The first cells of a slice. -/
theorem PR_first {S : Stb} {w : World} {sz : Nat} {nil : Bool} {xs : List (List AV)} {u : Value} (h : PR S w (.sl sz nil none xs) u) (hsz : 0 < sz) :
    ∃ base cap, ∃ cs : List Value, u = .slice base xs.length cap ∧ xs.length ≤ cap ∧ cs.length = xs.length * sz ∧ (∀ w', w'.heap = w.heap → (Builtin.firstCells sz xs.length u).run P w' = .ok cs.toArray w') ∧
      (∀ (i : Nat) (x : List AV) (j : Nat) (y : AV), xs[i]? = some x → x[j]? = some y → ∃ v, cs[i * sz + j]? = some v ∧ PR S w y v) ∧ (∀ v ∈ cs, v.oneCell' = true) ∧ nil = base.isNone ∧ (base = none → cap = 0) ∧ (∀ (i : Nat) (x : List AV), xs[i]? = some x → x.length = sz) := by
  cases h with
  | slNil => exact ⟨none, 0, [], rfl, Nat.le_refl _, by simp, fun w' _ => by simp [Builtin.firstCells], fun i x j y hx _ => by simp at hx, fun v hv => by simp at hv, rfl, fun _ => rfl, fun i x hx => by simp at hx⟩
  | slEmpty _ a cap => exact ⟨some a, cap, [], rfl, Nat.zero_le _, by simp, fun w' _ => by simp [Builtin.firstCells, loadCells, loadCellsFrom], fun i x j y hx _ => by simp at hx, fun v hv => by simp at hv, rfl, (fun h => by cases h), fun i x hx => by simp at hx⟩
  | sl _ b off cap _ f hcap hsl hc hv =>
    have hget : ∀ k, k < xs.length * sz → ∃ x y, xs[k / sz]? = some x ∧ x[k % sz]? = some y := by
      intro k hk
      have h1 : k / sz < xs.length := Nat.div_lt_of_lt_mul (by rw [Nat.mul_comm]; exact hk)
      have h2 := hsl _ _ (List.getElem?_eq_getElem h1)
      exact ⟨_, _, List.getElem?_eq_getElem h1, List.getElem?_eq_getElem (by rw [h2]; exact Nat.mod_lt _ hsz)⟩
    have hk : ∀ k, k / sz * sz + k % sz = k := fun k => by rw [Nat.mul_comm]; exact Nat.div_add_mod k sz
    refine ⟨some (ad b off), cap, (List.range (xs.length * sz)).map fun k => f (k / sz) (k % sz), rfl, hcap, by simp, fun w' hw' => ?_, fun i x j y hx hy => ?_, fun v hv' => ?_, rfl, (fun h => by cases h), hsl⟩
    · simp only [Builtin.firstCells]
      exact run_loadCells' P w' b off (fun k => f (k / sz) (k % sz)) _ fun k hk' => by
        obtain ⟨x, y, hx, hy⟩ := hget k hk'
        have := (hc _ x _ y hx hy).2
        rw [hk k] at this
        rw [← this]
        simp [World.cell?, ad, hw']
    · have hj : j < sz := by rw [← hsl i x hx]; exact (List.getElem?_eq_some_iff.1 hy).1
      have hi : i < xs.length := (List.getElem?_eq_some_iff.1 hx).1
      have hlt := idx_lt hi hj
      have e1 : (i * sz + j) / sz = i := by rw [Nat.mul_comm, Nat.mul_add_div hsz, Nat.div_eq_of_lt hj]; rfl
      have e2 : (i * sz + j) % sz = j := by rw [Nat.mul_comm, Nat.mul_add_mod, Nat.mod_eq_of_lt hj]
      refine ⟨f i j, ?_, hv i x j y hx hy⟩
      simp [hlt, e1, e2]
    · simp at hv'
      obtain ⟨k, hk', rfl⟩ := hv'
      obtain ⟨x, y, hx, hy⟩ := hget k hk'
      exact (hv _ x _ y hx hy).one.2

/-- The run of append: there is room. -/
theorem run_append_in {t e : TypeId} {ti ei : TI} (ht : TIok P t ti) (hk : ti.kind = .slice e) (he : TIok P e ei) {ty : TypeId} {base : Option Addr} {n m cap : Nat} {v : Value} {news : List Value} {w : World}
    (hlen : ∃ b' c', v = .slice b' m c') (hf : (Builtin.firstCells ei.size m v).run P w = .ok news.toArray w) (hle : n + m ≤ cap) :
    (Builtin.append_ #[t, t] ty #[.slice base n cap, v]).run P w = (match base with | some a => (storeCells (a.add (n * ei.size)) news).run P w | none => .ok () w).andThen fun _ w' => .ok (.slice base (n + m) cap) w' := by
  have hkk := ht.kind
  rw [hk] at hkk
  obtain ⟨b', c', rfl⟩ := hlen
  simp only [Builtin.append_]
  simp [run_under hkk, he.run_size, Builtin.lenOf, hle, hf]
  cases base <;> simp

theorem run_append_out {t e : TypeId} {ti ei : TI} (ht : TIok P t ti) (hk : ti.kind = .slice e) (he : TIok P e ei) (hbytes : ei.bytes ≠ 0) {ty : TypeId} {base : Option Addr} {n m cap : Nat} {v : Value} {olds news : List Value} {w : World}
    (hlen : ∃ b' c', v = .slice b' m c') (hf : (Builtin.firstCells ei.size m v).run P w.drew = .ok news.toArray w.drew) (hg : (Builtin.firstCells ei.size n (.slice base n cap)).run P w.drew = .ok olds.toArray w.drew)
    (hle : cap < n + m) (hfit : (n + m) * ei.bytes ≤ 140737488355328) :
    ∃ c rest, n + m ≤ c ∧ rest.size = (c - (n + m)) * ei.size ∧ (Builtin.append_ #[t, t] ty #[.slice base n cap, v]).run P w = .ok (.slice (some (ad w.heap.size 0)) (n + m) c) (w.drew.alloc (.cells (olds.toArray ++ news.toArray ++ rest) e)) := by
  have hkk := ht.kind
  rw [hk] at hkk
  obtain ⟨b', c', rfl⟩ := hlen
  obtain ⟨i, hi, hi2, hi3, hi4⟩ := he.info
  have hti : (typeInfo e).run P w = .ok i w := by simp [typeInfo, hi]
  have hti' : (typeInfo e).run P w.drew = .ok i w.drew := by simp [typeInfo, hi]
  have hgs := growslice_fits (bytes := ei.bytes) hle hfit
  refine ⟨(Question.appendCap (n + m) cap e).cut (w.tape w.drawn (.appendCap (n + m) cap e)), Builtin.zeroCells ei.zeroV.cells ((Question.appendCap (n + m) cap e).cut (w.tape w.drawn (.appendCap (n + m) cap e)) - (n + m)), by simp [Question.cut], ?_, ?_⟩
  · simp [Builtin.zeroCells, (zero_cells (K := fun _ => none) (S := fun _ _ => True) (w := w) he).2]
  · have hnf : (Question.appendCap (n + m) cap e).forced = false := rfl
    have hdrew : ({ w with drawn := w.drawn + 1 } : World) = w.drew := rfl
    simp only [Builtin.append_]
    simp [run_under hkk, he.run_size, he.run_zero, Builtin.lenOf, Nat.not_le.2 hle, hti, hti', hi3, hbytes, hf, hg, hnf, Nat.not_lt.2 hgs, newRow, ad]
    rw [← Array.append_assoc]
    simp

theorem cell_arr {w : World} {b : Nat} {arr : Array Value} {e : TypeId} {fr : Nat × Nat} (h : w.heap[b]? = some (.cells arr e fr)) (off : Nat) : w.cell? (ad b off) = arr[off]? := by
  simp [World.cell?, ad, h]

/-- APPEND. 'loc': where the slice lies; 'τ': its block of the abstract heap, old or new. -/
theorem append_core {t e : TypeId} {ti ei : TI} (ht : TIok P t ti) (hk : ti.kind = .slice e) (he : TIok P e ei) (hz : ei.size ≠ 0) (hbytes : ei.bytes ≠ 0) {x y : Operand} {τ : Nat} {nil nil2 : Bool} {xs ys : List (List AV)}
    (ho : o.op = .call { callee := .builtin .append, args := #[x, y], argTypes := #[t, t] }) (hfit : (xs.length + ys.length) * ei.bytes ≤ 140737488355328)
    {n : Nat} {K : KM} {S : Stb} {tm : Nat → AV} {hp : Nat → Option Blk} {a : Act} {w : World} (hr : RelF nG G0 n K S tm hp a w)
    (hx : PR S w (.sl ei.size nil none xs) (a.eval x)) (hy : PR S w (.sl ei.size nil2 none ys) (a.eval y)) {loc : Option (Nat × Nat)} (hloc : locMatch loc (a.eval x))
    (hτ : (K τ = some (.grow loc ei.size xs.length) ∧ hp τ = some (.grow ei.size xs.length)) ∨ (hp τ = none ∧ n0 ≤ τ ∧ loc = none)) (hn0 : n0 ≤ τ ∨ K τ ≠ none)
    (next : Act → World → Prop) (QC : Exit → Act → World → Prop)
    (hn : ∀ u w' K' S', VR K' S' w' (.sl ei.size (nil && ys.isEmpty) (some τ) (xs ++ ys)) u → HRel nG G0 K' S' (updH hp [(τ, .grow ei.size (xs.length + ys.length))]) w' → Ext n0 K S w K' S' w' → KLe K K' → next (a.put o.dst u) w') :
    o.wp P a w next QC := by
  have hsz : 0 < ei.size := by omega
  obtain ⟨base, cap, olds, hu, hcap, hol, hofc, hoc, ho1, hnil, hb0, hxl⟩ := PR_first (P := P) hx hsz
  obtain ⟨base2, cap2, news, hv, hcap2, hnl, hnfc, hnc, hn1, hnil2, _, hyl⟩ := PR_first (P := P) hy hsz
  rw [hu] at hloc hofc
  have hgrowK : ∀ ki, K τ = some ki → ki = .grow loc ei.size xs.length := by
    intro ki hki
    rcases hτ with ⟨h1, _⟩ | ⟨h1, _⟩
    · rw [h1] at hki; cases hki; rfl
    · rw [hr.heap.dom_none h1] at hki; cases hki
  have hKnone : K τ = none → n0 ≤ τ := fun h => hn0.resolve_right (fun h' => h' h)
  have hlen : (xs ++ ys).length = xs.length + ys.length := List.length_append
  -- what the result reads as, wherever it lies
  have hPR : ∀ (S' : Stb) (w' : World) (b c : Nat), Kept S w S' w' → xs.length + ys.length ≤ c → (∀ off, off < (xs.length + ys.length) * ei.size → S' b off) →
      (∀ k, k < xs.length * ei.size → w'.cell? (ad b k) = olds[k]?) → (∀ k, k < ys.length * ei.size → w'.cell? (ad b (xs.length * ei.size + k)) = news[k]?) →
      PR S' w' (.sl ei.size false none (xs ++ ys)) (.slice (some (ad b 0)) (xs.length + ys.length) c) := by
    intro S' w' b c hkept hc hst hco hcn
    have key : ∀ (i : Nat) (z : List AV) (j : Nat) (q : AV), (xs ++ ys)[i]? = some z → z[j]? = some q → ∃ v, w'.cell? (ad b (i * ei.size + j)) = some v ∧ PR S' w' q v ∧ S' b (i * ei.size + j) := by
      intro i z j q hz' hq
      by_cases hi : i < xs.length
      · rw [List.getElem?_append_left hi] at hz'
        have hj : j < ei.size := by rw [← hxl i z hz']; exact (List.getElem?_eq_some_iff.1 hq).1
        have hlt := idx_lt hi hj
        obtain ⟨v, h1, h2⟩ := hoc i z j q hz' hq
        refine ⟨v, by rw [hco _ hlt, h1], h2.mono hkept, hst _ ?_⟩
        have := Nat.mul_le_mul_right ei.size (show xs.length ≤ xs.length + ys.length from Nat.le_add_right _ _)
        omega
      · rw [List.getElem?_append_right (by omega)] at hz'
        have hj : j < ei.size := by rw [← hyl _ z hz']; exact (List.getElem?_eq_some_iff.1 hq).1
        have hi2 : i - xs.length < ys.length := (List.getElem?_eq_some_iff.1 hz').1
        have hlt := idx_lt hi2 hj
        obtain ⟨v, h1, h2⟩ := hnc _ z j q hz' hq
        have e1 : i * ei.size + j = xs.length * ei.size + ((i - xs.length) * ei.size + j) := by
          have : i = xs.length + (i - xs.length) := by omega
          conv => lhs; rw [this, Nat.add_mul]
          omega
        refine ⟨v, by rw [e1, hcn _ hlt, h1], h2.mono hkept, hst _ ?_⟩
        rw [e1, Nat.add_mul]
        omega
    have hcl : ∀ (i : Nat) (z : List AV), (xs ++ ys)[i]? = some z → z.length = ei.size := by
      intro i z hz'
      by_cases hi : i < xs.length
      · rw [List.getElem?_append_left hi] at hz'; exact hxl i z hz'
      · rw [List.getElem?_append_right (by omega)] at hz'; exact hyl _ z hz'
    have := PR.sl (S := S') (w := w') ei.size b 0 c (xs ++ ys) (fun i j => (w'.cell? (ad b (i * ei.size + j))).getD undef) (by rw [hlen]; exact hc) hcl (fun i z j q hz' hq => ?_) (fun i z j q hz' hq => ?_)
    · rw [hlen] at this; exact this
    · obtain ⟨v, h1, _, h3⟩ := key i z j q hz' hq
      rw [Nat.zero_add]
      exact ⟨h3, by rw [h1]; rfl⟩
    · obtain ⟨v, h1, h2, _⟩ := key i z j q hz' hq
      rw [h1]; exact h2
  have hrun0 : (execOp a.eval o).run P w = ((Builtin.append_ #[t, t] o.type #[.slice base xs.length cap, a.eval y]).run P w).andThen fun u w' => .ok (.value u) w' := by
    rw [run_builtin ho]
    simp [builtin, hu]
  unfold Oper.wp
  rw [hrun0]
  by_cases hroom : xs.length + ys.length ≤ cap
  · -- there is room
    rw [run_append_in ht hk he ⟨base2, cap2, hv⟩ (hnfc w rfl) hroom]
    cases base with
    | none =>
      have hc0 := hb0 rfl
      obtain ⟨hxe, hye⟩ : xs = [] ∧ ys = [] := ⟨List.eq_nil_of_length_eq_zero (by omega), List.eq_nil_of_length_eq_zero (by omega)⟩
      subst hxe; subst hye
      have hl0 : loc = none := by
        cases loc with
        | none => rfl
        | some l => obtain ⟨b, c⟩ := l; simp [locMatch] at hloc
      subst hl0
      have hn1 : nil = true := by simpa using hnil
      subst hn1
      obtain ⟨g1, g2, g3⟩ := hr.heap.gen (n0 := n0) (w' := w) (id := τ) (ki' := .grow none ei.size 0) (bl := .grow ei.size 0) (S' := S) rfl rfl rfl (Nat.le_refl _) (fun _ _ _ => rfl) (fun b hb => by simp [KI.blk] at hb) (fun _ _ _ => rfl) (fun _ _ h => h) (fun _ _ h => .inl h)
        (fun ki hki => by rw [hgrowK ki hki]; exact ⟨rfl, .inl ⟨rfl, rfl⟩⟩) hKnone ⟨rfl, rfl, rfl⟩
      simp only [Result.andThen_ok, Oper.upon_value]
      refine hn _ _ _ _ ?_ g1 g2 g3
      simp only [VR, VRa, VRc, VR0]
      rw [hc0]
      exact ⟨.slNil _, none, 0, by simp [updK], Nat.le_refl _, fun _ => trivial⟩
    | some ad0 =>
      have hn1 : nil = false := by simpa using hnil
      subst hn1
      cases loc with
      | none => simp [locMatch] at hloc
      | some l =>
      obtain ⟨b, c⟩ := l
      simp only [locMatch] at hloc
      obtain ⟨rfl, rfl⟩ := hloc
      obtain ⟨hK, hhp⟩ : K τ = some (.grow (some (b, cap)) ei.size xs.length) ∧ hp τ = some (.grow ei.size xs.length) := by
        rcases hτ with h | ⟨_, _, h⟩
        · exact h
        · cases h
      obtain ⟨_, _, hle, arr, e', hheap, harr⟩ := hr.heap.blk τ _ _ hhp hK
      have hmul : (xs.length + ys.length) * ei.size ≤ cap * ei.size := Nat.mul_le_mul_right _ hroom
      rw [Nat.add_mul] at hmul
      have hblt : b < w.heap.size := (Array.getElem?_eq_some_iff.1 hheap).1
      obtain ⟨arr', k1, k2, k3⟩ := run_storeCells' P b (xs.length * ei.size) e' news 0 arr w hheap (by omega) hn1
      have hrun : (storeCells ((ad b 0).add (xs.length * ei.size)) news).run P w = .ok () (putB w b (.cells arr' e' (0, 0))) := by
        rw [ad_add, Nat.zero_add]; exact k1
      simp only [hrun, Result.andThen_ok, Oper.upon_value]
      have hout : ∀ b' off, S b' off → (putB w b (.cells arr' e' (0, 0))).cell? (ad b' off) = w.cell? (ad b' off) := by
        intro b' off hs
        by_cases hb : b' = b
        · subst hb
          obtain ⟨l, sz, n', he', hlt⟩ := hr.heap.apart b' off τ _ hs hK rfl
          cases he'
          rw [cell_arr (putB_heap _ _ _ hblt), cell_arr hheap, k3, if_neg (by omega)]
        · exact cell_of_heap (putB_heap_ne _ _ _ _ hb)
      have hkept : Kept S w (fun b' off => S b' off ∨ (b' = b ∧ off < (xs.length + ys.length) * ei.size)) (putB w b (.cells arr' e' (0, 0))) := by
        refine ⟨fun _ _ h => .inl h, hout, fun b' hs => putB_heap_ne _ _ _ _ ?_⟩
        rintro rfl
        exact hr.heap.whole_apart hs hK rfl
      obtain ⟨g1, g2, g3⟩ := hr.heap.gen (n0 := n0) (w' := putB w b (.cells arr' e' (0, 0))) (id := τ) (ki' := .grow (some (b, cap)) ei.size (xs.length + ys.length)) (bl := .grow ei.size (xs.length + ys.length))
        (S' := fun b' off => S b' off ∨ (b' = b ∧ off < (xs.length + ys.length) * ei.size)) rfl rfl rfl (Nat.le_of_eq (putB_size _ _ _).symm)
        (fun b' hb' hne => putB_heap_ne _ _ _ _ (fun hbb => hne _ hK (by rw [hbb]; rfl))) (fun b' hb' => by cases hb'; exact .inl ⟨_, hK, rfl⟩) hout (fun _ _ h => .inl h)
        (fun b' off hs => by
          rcases hs with hs | ⟨rfl, hlt⟩
          · exact .inl hs
          · exact .inr ⟨rfl, _, _, _, rfl, hlt⟩)
        (fun ki hki => by
          rw [hgrowK ki hki]
          refine ⟨rfl, ?_⟩
          rcases Nat.eq_zero_or_pos ys.length with h0 | h0
          · exact .inl ⟨by omega, rfl⟩
          · exact .inr (by omega)) hKnone
        ⟨rfl, rfl, hroom, arr', e', putB_heap _ _ _ hblt, by omega⟩
      refine hn _ _ _ _ ?_ g1 g2 g3
      simp only [VR, VRa, VRc, VR0, Bool.false_and]
      refine ⟨hPR _ _ b cap hkept hroom (fun off h => .inr ⟨rfl, h⟩) (fun k hk' => ?_) (fun k hk' => ?_), some (b, cap), xs.length + ys.length, by simp [updK], by rw [hlen]; exact Nat.le_refl _, fun _ => ⟨rfl, rfl⟩⟩
      · rw [cell_arr (putB_heap _ _ _ hblt), k3, if_neg (by omega)]
        -- the old cells are those that were read
        obtain ⟨z, q, hz1, hq1⟩ : ∃ z q, xs[k / ei.size]? = some z ∧ z[k % ei.size]? = some q := by
          have h1 : k / ei.size < xs.length := Nat.div_lt_of_lt_mul (by rw [Nat.mul_comm]; exact hk')
          have h2 := hxl _ _ (List.getElem?_eq_getElem h1)
          exact ⟨_, _, List.getElem?_eq_getElem h1, List.getElem?_eq_getElem (by rw [h2]; exact Nat.mod_lt _ hsz)⟩
        have hfc := hofc w rfl
        simp only [Builtin.firstCells] at hfc
        rw [run_loadCells' P w b 0 (fun k => arr[k]?.getD undef) _ (fun j hj => by
          rw [cell_arr hheap, Nat.zero_add]
          simp [show j < arr.size from by omega])] at hfc
        cases hfc
        simp [hk', show k < arr.size from by omega]
      · rw [cell_arr (putB_heap _ _ _ hblt), k3, if_pos (by omega)]
        simp
  · -- a new array
    obtain ⟨c, rest, hc1, hrest, hrun⟩ := run_append_out (P := P) ht hk he hbytes (ty := o.type) (base := base) (n := xs.length) (m := ys.length) (cap := cap) (v := a.eval y) (olds := olds) (news := news) (w := w) ⟨base2, cap2, hv⟩ (hnfc _ rfl) (hofc _ rfl) (by omega) hfit
    rw [hrun]
    simp only [Result.andThen_ok, Oper.upon_value]
    have hmn : (xs.length + ys.length) * ei.size = xs.length * ei.size + ys.length * ei.size := Nat.add_mul _ _ _
    have hasz : (olds.toArray ++ news.toArray ++ rest).size = c * ei.size := by
      simp only [Array.size_append, List.size_toArray, hol, hnl, hrest]
      rw [← Nat.add_mul, ← Nat.add_mul]
      congr 1
      omega
    have hdr : ∀ b', b' < w.heap.size → (w.drew.alloc (.cells (olds.toArray ++ news.toArray ++ rest) e)).heap[b']? = w.heap[b']? := fun b' hb' => heap_alloc_lt w.drew _ b' hb'
    have hnew : (w.drew.alloc (.cells (olds.toArray ++ news.toArray ++ rest) e)).heap[w.heap.size]? = some (.cells (olds.toArray ++ news.toArray ++ rest) e) := heap_alloc_eq w.drew _
    have hkept : Kept S w (fun b' off => S b' off ∨ (b' = w.heap.size ∧ off < (xs.length + ys.length) * ei.size)) (w.drew.alloc (.cells (olds.toArray ++ news.toArray ++ rest) e)) :=
      ⟨fun _ _ h => .inl h, fun b' off hs => cell_of_heap (hdr b' (hr.heap.lt b' off hs)), fun b' hs => hdr b' (hr.heap.lt b' 0 (hs 0))⟩
    obtain ⟨g1, g2, g3⟩ := hr.heap.gen (n0 := n0) (w' := w.drew.alloc (.cells (olds.toArray ++ news.toArray ++ rest) e)) (id := τ) (ki' := .grow (some (w.heap.size, c)) ei.size (xs.length + ys.length)) (bl := .grow ei.size (xs.length + ys.length))
      (S' := fun b' off => S b' off ∨ (b' = w.heap.size ∧ off < (xs.length + ys.length) * ei.size)) rfl rfl rfl (by simp) (fun b' hb' _ => hdr b' hb') (fun b' hb' => by cases hb'; exact .inr (Nat.le_refl _))
      (fun b' off hs => cell_of_heap (hdr b' (hr.heap.lt b' off hs))) (fun _ _ h => .inl h)
      (fun b' off hs => by
        rcases hs with hs | ⟨rfl, hlt⟩
        · exact .inl hs
        · exact .inr ⟨rfl, _, _, _, rfl, hlt⟩)
      (fun ki hki => by
        rw [hgrowK ki hki]
        exact ⟨rfl, .inr (by omega)⟩) hKnone
      ⟨rfl, rfl, hc1, _, e, hnew, hasz⟩
    have hye : ys.isEmpty = false := by
      cases ys with
      | nil => simp at hroom; omega
      | cons => rfl
    refine hn _ _ _ _ ?_ g1 g2 g3
    simp only [VR, VRa, VRc, VR0, hye, Bool.and_false]
    refine ⟨hPR _ _ w.heap.size c hkept hc1 (fun off h => .inr ⟨rfl, h⟩) (fun k hk' => ?_) (fun k hk' => ?_), some (w.heap.size, c), xs.length + ys.length, by simp [updK], by rw [hlen]; exact Nat.le_refl _, fun _ => ⟨rfl, rfl⟩⟩
    · rw [cell_arr hnew, Array.append_assoc, Array.getElem?_append_left (by simp; omega)]
      simp
    · rw [cell_arr hnew, Array.getElem?_append_left (by simp; omega), Array.getElem?_append_right (by simp; omega)]
      simp [hol]

theorem snd_append_tok {t e : TypeId} {ti ei : TI} (ht : TIok P t ti) (hk : ti.kind = .slice e) (he : TIok P e ei) (hz : ei.size ≠ 0) (hbytes : ei.bytes ≠ 0) {x y : Operand} {τ m : Nat} {nil nil2 : Bool} {tok2 : Option Nat} {xs ys : List (List AV)}
    (ho : o.op = .call { callee := .builtin .append, args := #[x, y], argTypes := #[t, t] }) (hfit : (xs.length + ys.length) * ei.bytes ≤ 140737488355328)
    (hx : evA tm0 x = .sl ei.size nil (some τ) xs) (hy : evA tm0 y = .sl ei.size nil2 tok2 ys) (hb : hp0 τ = some (.grow ei.size m)) (hm : xs.length = m) (hrd : τ ∈ rd) :
    OpSnd P nG G0 n0 o (.sl ei.size (nil && ys.isEmpty) (some τ) (xs ++ ys)) [(τ, .grow ei.size (m + ys.length))] rd tm0 hp0 := by
  subst hm
  intro n K S tm hp a w hr hxx hh hws next QC hn
  have hX := hx ▸ hxx x (by rw [ho]; simp [Op.operands, Call.operands]) ▸ hr.ev x
  have hY := hy ▸ hxx y (by rw [ho]; simp [Op.operands, Call.operands]) ▸ hr.ev y
  obtain ⟨loc, n', hK, hle, hl⟩ := VR_tok hX
  have hhp := (hh τ hrd).trans hb
  obtain ⟨_, hn', _⟩ := hr.heap.blk τ _ _ hhp hK
  subst hn'
  exact append_core ht hk he hz hbytes ho hfit hr (VR_sl hX) (VR_sl hY) (hl rfl) (.inl ⟨hK, hhp⟩) (.inr (by rw [hK]; simp)) next QC hn

theorem snd_append_nil {t e : TypeId} {ti ei : TI} (ht : TIok P t ti) (hk : ti.kind = .slice e) (he : TIok P e ei) (hz : ei.size ≠ 0) (hbytes : ei.bytes ≠ 0) {x y : Operand} {τ : Nat} {nil2 : Bool} {tok2 : Option Nat} {ys : List (List AV)}
    (ho : o.op = .call { callee := .builtin .append, args := #[x, y], argTypes := #[t, t] }) (hfit : ys.length * ei.bytes ≤ 140737488355328)
    (hx : evA tm0 x = .nils ∨ ∃ tok, evA tm0 x = .sl ei.size true tok []) (hy : evA tm0 y = .sl ei.size nil2 tok2 ys) (hrd : τ ∉ rd) :
    OpSnd P nG G0 n0 o (.sl ei.size ys.isEmpty (some τ) ys) [(τ, .grow ei.size ys.length)] rd tm0 hp0 := by
  intro n K S tm hp a w hr hxx hh hws next QC hn
  obtain ⟨hid, hn0⟩ : hp τ = none ∧ n0 ≤ τ := (hws (τ, .grow ei.size ys.length) (by simp)).resolve_left hrd
  have hX := hxx x (by rw [ho]; simp [Op.operands, Call.operands]) ▸ hr.ev x
  have hY := hy ▸ hxx y (by rw [ho]; simp [Op.operands, Call.operands]) ▸ hr.ev y
  have hu : a.eval x = .slice none 0 0 := by
    rcases hx with hx | ⟨tok, hx⟩
    · rw [hx] at hX; exact VR_nils hX
    · rw [hx] at hX
      have := VR_sl hX
      generalize a.eval x = u at this
      cases this; rfl
  have hP : PR S w (.sl ei.size true none []) (a.eval x) := by rw [hu]; exact .slNil _
  refine append_core (xs := []) ht hk he hz hbytes ho (by simpa using hfit) hr hP (VR_sl hY) (loc := none) (by rw [hu]; trivial) (.inr ⟨hid, hn0, rfl⟩) (.inl hn0) next QC ?_
  simpa using hn
end ops
end Go.Ab

namespace Go.Ab

/-- Renaming of the blocks that a value names. -/
def renR (ρ : Nat → Option Nat) : AV → AV
  | .ref id off => match ρ id with | some i => .ref i off | none => .dead
  | .eref sz id j off => match ρ id with | some i => .eref sz i j off | none => .dead
  | .rsl sz id off len => match ρ id with | some i => .rsl sz i off len | none => .dead
  | .rmp id => match ρ id with | some i => .rmp i | none => .dead
  | .iter id => match ρ id with | some i => .iter i | none => .dead
  | .sl sz nil tok xs => match tok with | some τ => .sl sz nil (ρ τ) xs | none => .sl sz nil none xs
  | .func _ _ => .dead
  | .agg _ => .dead
  | .tup _ => .dead
  | v => v

def renC (ρ : Nat → Option Nat) : AV → AV
  | .func f cap => .func f (cap.map (renR ρ))
  | v => renR ρ v

def renA (ρ : Nat → Option Nat) : AV → AV
  | .agg cs => .agg (cs.map (renC ρ))
  | v => renC ρ v

def renV (ρ : Nat → Option Nat) : AV → AV
  | .tup vs => .tup (vs.map (renA ρ))
  | v => renA ρ v

def renB (ρ : Nat → Option Nat) : Blk → Blk
  | .var cs => .var (cs.map (renC ρ))
  | b => b

section
variable {K K2 : KM} {S S2 : Stb} {w w2 : World} {ρ : Nat → Option Nat}

theorem VR0.ren (hρ : ∀ id i ki, ρ id = some i → K id = some ki → K2 i = some ki) (h : Kept S w S2 w2) {y : AV} {u : Value} (p : VR0 K S w y u) : VR0 K2 S2 w2 (renR ρ y) u := by
  cases y <;> simp only [VR0] at p <;> simp only [renR] <;> try (simp only [VR0]; exact p.mono h)
  case sl sz nil tok xs =>
    cases tok with
    | none => simp only [VR0] at p ⊢; exact p.mono h
    | some τ =>
      simp only
      obtain ⟨p, loc, n, hK, hn, hl⟩ := p
      cases hr : ρ τ with
      | none => simp only [VR0]; exact p.mono h
      | some i => simp only [VR0]; exact ⟨p.mono h, loc, n, hρ τ i _ hr hK, hn, hl⟩
  case ref id off =>
    obtain ⟨b, hK, hu⟩ := p
    cases hr : ρ id with
    | none => simp only [VR0]
    | some i => simp only [VR0]; exact ⟨b, hρ id i _ hr hK, hu⟩
  case eref sz id j off =>
    obtain ⟨b, n, hK, h1, hu⟩ := p
    cases hr : ρ id with
    | none => simp only [VR0]
    | some i => simp only [VR0]; exact ⟨b, n, hρ id i _ hr hK, h1, hu⟩
  case rsl sz id off len =>
    obtain ⟨b, n, cap, hK, h1, h2, hu⟩ := p
    cases hr : ρ id with
    | none => simp only [VR0]
    | some i => simp only [VR0]; exact ⟨b, n, cap, hρ id i _ hr hK, h1, h2, hu⟩
  case rmp id =>
    obtain ⟨b, hK, hu⟩ := p
    cases hr : ρ id with
    | none => simp only [VR0]
    | some i => simp only [VR0]; exact ⟨b, hρ id i _ hr hK, hu⟩
  case iter id =>
    obtain ⟨b, hK, hu⟩ := p
    cases hr : ρ id with
    | none => simp only [VR0]
    | some i => simp only [VR0]; exact ⟨b, hρ id i _ hr hK, hu⟩
  case dead => simp only [VR0]

theorem VRc.ren (hρ : ∀ id i ki, ρ id = some i → K id = some ki → K2 i = some ki) (h : Kept S w S2 w2) {y : AV} {u : Value} (p : VRc K S w y u) : VRc K2 S2 w2 (renC ρ y) u := by
  cases y
  case func f cap =>
    obtain ⟨cs, h1, h2, h3⟩ := p
    simp only [renC, VRc]
    refine ⟨cs, h1, by simpa using h2, fun j y c hy hc => ?_⟩
    rw [List.getElem?_map] at hy
    cases hq : cap[j]? with
    | none => rw [hq] at hy; cases hy
    | some q => rw [hq] at hy; cases hy; exact (h3 j q c hq hc).ren hρ h
  all_goals
    simp only [VRc] at p
    have q := VR0.ren hρ h p
    simp only [renC]
    revert q
    simp only [renR]
    (repeat' split) <;> (intro q; simpa only [VRc] using q)

theorem VRc.vra {y : AV} {u : Value} (h : VRc K S w y u) : VRa K S w y u := by
  cases y
  case agg => simp only [VRc, VR0] at h
  all_goals simpa only [VRa] using h

theorem VRc.vr {y : AV} {u : Value} (h : VRc K S w y u) : VR K S w y u := by
  cases y
  case agg => simp only [VRc, VR0] at h
  case tup => simp only [VRc, VR0] at h
  all_goals simpa only [VR, VRa] using h

theorem VRa.vr {y : AV} {u : Value} (h : VRa K S w y u) : VR K S w y u := by
  cases y
  case tup => simp only [VRa, VRc, VR0] at h
  all_goals simpa only [VR] using h

theorem VRa.ren (hρ : ∀ id i ki, ρ id = some i → K id = some ki → K2 i = some ki) (h : Kept S w S2 w2) {y : AV} {u : Value} (p : VRa K S w y u) : VRa K2 S2 w2 (renA ρ y) u := by
  cases y
  case agg ys =>
    obtain ⟨vs, h1, h2, h3⟩ := p
    simp only [renA, VRa]
    refine ⟨vs, h1, by simpa using h2, fun j y c hy hc => ?_⟩
    rw [List.getElem?_map] at hy
    cases hq : ys[j]? with
    | none => rw [hq] at hy; cases hy
    | some q => rw [hq] at hy; cases hy; exact (h3 j q c hq hc).ren hρ h
  case tup zs => simp only [VRa, VRc, VR0] at p
  all_goals
    simp only [VRa] at p
    have q := VRc.ren hρ h p
    simpa only [renA] using q.vra

theorem VR.ren (hρ : ∀ id i ki, ρ id = some i → K id = some ki → K2 i = some ki) (h : Kept S w S2 w2) {y : AV} {u : Value} (p : VR K S w y u) : VR K2 S2 w2 (renV ρ y) u := by
  cases y
  case tup ys =>
    obtain ⟨vs, h1, h2, h3⟩ := p
    simp only [renV, VR]
    refine ⟨vs, h1, by simpa using h2, fun j y c hy hc => ?_⟩
    rw [List.getElem?_map] at hy
    cases hq : ys[j]? with
    | none => rw [hq] at hy; cases hy
    | some q => rw [hq] at hy; cases hy; exact (h3 j q c hq hc).ren hρ h
  all_goals
    simp only [VR] at p
    have q := VRa.ren hρ h p
    simpa only [renV] using q.vr

theorem BR.ren (hρ : ∀ id i ki, ρ id = some i → K id = some ki → K2 i = some ki) (h : Kept S w S2 w2) {bl : Blk} {ki : KI} (hb : ∀ b, ki.blk = some b → w2.heap[b]? = w.heap[b]?) (p : BR K S w bl ki) : BR K2 S2 w2 (renB ρ bl) ki := by
  cases bl <;> cases ki <;> simp only [BR, renB] at p ⊢
  case var.var cs b =>
    obtain ⟨arr, e, h1, h2, h3⟩ := p
    refine ⟨arr, e, (hb b rfl).trans h1, by simpa using h2, fun j y u hy hu => ?_⟩
    rw [List.getElem?_map] at hy
    cases hq : cs[j]? with
    | none => rw [hq] at hy; cases hy
    | some q => rw [hq] at hy; cases hy; exact (h3 j q u hq hu).ren hρ h
  case arr.arr sz xs b sz' n =>
    obtain ⟨h1, h2, h3, arr, e, h4, h5, h6⟩ := p
    exact ⟨h1, h2, h3, arr, e, (hb b rfl).trans h4, h5, fun i x j y u hx hy hu => (h6 i x j y u hx hy hu).mono h⟩
  case grow.grow sz n loc sz' n' =>
    obtain ⟨h1, h2, h3⟩ := p
    refine ⟨h1, h2, ?_⟩
    cases loc with
    | none => exact h3
    | some l =>
      obtain ⟨h4, arr, e, h5, h6⟩ := h3
      exact ⟨h4, arr, e, (hb l.1 rfl).trans h5, h6⟩
  case mp.mp es b =>
    obtain ⟨ents, clock, h1, h2, h3, h4⟩ := p
    exact ⟨ents, clock, (hb b rfl).trans h1, h2, fun i p e hp he => (h3 i p e hp he).mono h, fun i p e hp he => (h4 i p e hp he).mono h⟩
  case iter.iter es cur b =>
    obtain ⟨m, since, seen, stepped, h1, h2⟩ := p
    exact ⟨m, since, seen, stepped, (hb b rfl).trans h1, h2.mono h⟩
end

def hpF (hp : List (Option Blk)) (id : Nat) : Option Blk := hp.getD id none
def tmF (tm : List AV) (t : Nat) : AV := tm.getD t .dead

/-- Argument for argument. -/
def VRs (K : KM) (S : Stb) (w : World) (ys : List AV) (us : List Value) : Prop :=
  us.length = ys.length ∧ ∀ (j : Nat) (y : AV) (u : Value), ys[j]? = some y → us[j]? = some u → VR K S w y u

/-- THE CONTRACT: f, called with args over the heap H, returns r and leaves H'. -/
structure Good (P : Program) (nG : Nat) (G0 : Nat → Option Obj) (f : FuncId) (args : List AV) (H : List (Option Blk)) (r : AV) (H' : List (Option Blk)) : Prop where
  body : ∃ fn, P.funcs[f]? = some fn ∧ fn.body.isSome = true ∧ (fn.name == "runtime.NumGoroutine") = false
  calls : ∀ (w : World) (K : KM) (S : Stb) (us : List Value), HRel nG G0 K S (hpF H) w → VRs K S w args us →
    Calls P f us.toArray w fun e w' => ∃ v K' S', e = .returned v ∧ HRel nG G0 K' S' (hpF H') w' ∧ VR K' S' w' r v ∧ Ext H.length K S w K' S' w'

/-- A call of a named function. -/
theorem exec_call {P : Program} {o : Oper} {ρ : Operand → Value} {g : Operand} {args : Array Operand} {ts : Array TypeId} {f : FuncId} {cap : Array Value} (ho : o.op = .call { callee := .value g, args := args, argTypes := ts })
    (hg : ρ g = .func (.func f) #[] cap) {fn : Func} (hf : P.funcs[f]? = some fn) (hb : fn.body.isSome = true) (hn : (fn.name == "runtime.NumGoroutine") = false) (w : World) :
    (execOp ρ o).run P w = .ok (.enter f (args.map ρ ++ cap)) w := by
  rw [execOp_eq ho]; unfold execOp
  have hb' : ¬ fn.body = none := by cases h : fn.body <;> simp_all
  have hn' : ¬ fn.name = "runtime.NumGoroutine" := by simpa using hn
  simp [resolve, hg, Deferred.ofValue, invoke, callFunc, hf, hb', hn']

/-- All of a value is plain: no reading goes through a cell. -/
def AV.plainC : AV → Bool
  | .bool _ => true
  | .int _ _ => true
  | .str _ => true
  | .iface => true
  | .nilIface => true
  | _ => false

def AV.plain : AV → Bool
  | .tup vs => vs.all fun v => match v with | .agg cs => cs.all AV.plainC | v => v.plainC
  | .agg cs => cs.all AV.plainC
  | v => v.plainC

theorem VRc.plain {K K2 : KM} {S S2 : Stb} {w w2 : World} {y : AV} {u : Value} (h : VRc K S w y u) (hp : y.plainC = true) : VRc K2 S2 w2 y u := by
  cases y <;> simp [AV.plainC] at hp <;> simp only [VRc, VR0] at h ⊢ <;> cases h <;> constructor

theorem VRa.plain {K K2 : KM} {S S2 : Stb} {w w2 : World} {y : AV} {u : Value} (h : VRa K S w y u) (hp : (match y with | .agg cs => cs.all AV.plainC | v => v.plainC) = true) : VRa K2 S2 w2 y u := by
  cases y
  case agg ys =>
    obtain ⟨vs, h1, h2, h3⟩ := h
    exact ⟨vs, h1, h2, fun j y v hy hv => (h3 j y v hy hv).plain (List.all_eq_true.1 hp y (List.mem_of_getElem? hy))⟩
  all_goals (simp only [VRa] at h ⊢; exact VRc.plain h hp)

theorem VR.plain {K K2 : KM} {S S2 : Stb} {w w2 : World} {y : AV} {u : Value} (h : VR K S w y u) (hp : y.plain = true) : VR K2 S2 w2 y u := by
  cases y
  case tup ys =>
    obtain ⟨vs, h1, h2, h3⟩ := h
    refine ⟨vs, h1, h2, fun j y v hy hv => (h3 j y v hy hv).plain ?_⟩
    have := List.all_eq_true.1 hp y (List.mem_of_getElem? hy)
    cases y <;> exact this
  case agg ys =>
    simp only [VR] at h ⊢
    exact VRa.plain h hp
  all_goals (simp only [VR] at h ⊢; exact VRa.plain h hp)

/-- A value as it is handed to a function that is called alone: slices and maps over memory of one's own are seen as they read now. -/
def viewC (hp : Nat → Option Blk) : AV → AV
  | .sl sz nil _ xs => .sl sz nil none xs
  | .rsl sz id off len => match hp id with | some (.arr _ xs) => .sl sz false none ((xs.drop off).take len) | _ => .dead
  | .rmp id => match hp id with | some (.mp es) => .mp false es | _ => .dead
  | .func f cap => match cap with | [] => .func f [] | _ => .dead
  | .ref _ _ => .dead
  | .eref _ _ _ _ => .dead
  | .iter _ => .dead
  | .agg _ => .dead
  | .tup _ => .dead
  | v => v

def viewA (hp : Nat → Option Blk) : AV → AV
  | .agg cs => .agg (cs.map (viewC hp))
  | v => viewC hp v

/-- The blocks that a view reads. -/
def viewIdsC : AV → List Nat
  | .rsl _ id _ _ => [id]
  | .rmp id => [id]
  | _ => []

def viewIds : AV → List Nat
  | .agg cs => cs.flatMap viewIdsC
  | v => viewIdsC v

/-- The cells of the viewed blocks are stable for the call. -/
def viewS (K : KM) (S : Stb) (ids : List Nat) : Stb := fun b off => S b off ∨ ∃ id ∈ ids, (∃ ki, K id = some ki ∧ (match ki with | .arr b' _ _ => b' = b | .mp b' => b' = b | _ => False))

theorem viewS_sub (K : KM) (S : Stb) (w : World) (ids : List Nat) : Kept S w (viewS K S ids) w := ⟨fun _ _ h => .inl h, fun _ _ _ => rfl, fun _ _ => rfl⟩

theorem VRc.view {nG : Nat} {G0 : Nat → Option Obj} {K : KM} {S : Stb} {hp : Nat → Option Blk} {w : World} (hr : HRel nG G0 K S hp w) {ids : List Nat} {y : AV} {u : Value} (h : VRc K S w y u) (hi : ∀ id ∈ viewIdsC y, id ∈ ids) :
    VRc (fun _ => none) (viewS K S ids) w (viewC hp y) u := by
  have hkept := viewS_sub K S w ids
  cases y <;> simp only [viewC] <;> try (simp only [VRc, VR0] at h ⊢; exact h.mono hkept)
  case ref => simp only [VRc, VR0]
  case eref => simp only [VRc, VR0]
  case iter => simp only [VRc, VR0]
  case agg => simp only [VRc, VR0]
  case tup => simp only [VRc, VR0]
  case dead => simp only [VRc, VR0]
  case sl sz nil tok xs =>
    cases tok with
    | none => simp only [VRc, VR0] at h ⊢; exact h.mono hkept
    | some τ => simp only [VRc, VR0] at h ⊢; exact h.1.mono hkept
  case rsl sz id off len =>
    simp only [VRc, VR0] at h
    obtain ⟨b, n, cap, hK, h1, h2, rfl⟩ := h
    cases hb : hp id with
    | none => simp only [VRc, VR0]
    | some bl =>
      have hbr := hr.blk id bl _ hb hK
      cases bl <;> simp only [BR] at hbr
      rename_i sz2 xs
      obtain ⟨e1, rfl, hxl, arr, e, hheap, hsz, hv⟩ := hbr
      subst e1
      simp only [VRc, VR0]
      have hl : ((xs.drop off).take len).length = len := by simp; omega
      have key := PR.sl (S := viewS K S ids) (w := w) sz2 b (off * sz2) cap ((xs.drop off).take len) (fun i j => arr[(off + i) * sz2 + j]?.getD undef) (by rw [hl]; exact h2) (fun i x hx => ?_) (fun i x j y hx hy => ?_) (fun i x j y hx hy => ?_)
      · rw [hl] at key; exact key
      all_goals
        rw [List.getElem?_take] at hx
        split at hx
        rotate_left
        · cases hx
        rw [List.getElem?_drop] at hx
      · exact hxl _ x hx
      all_goals
        have hj : j < sz2 := by rw [← hxl _ x hx]; exact (List.getElem?_eq_some_iff.1 hy).1
        have hi' : off + i < xs.length := (List.getElem?_eq_some_iff.1 hx).1
        have hlt := idx_lt hi' hj
        have hs : (off + i) * sz2 + j < arr.size := by omega
      · refine ⟨.inr ⟨id, hi id (by simp [viewIdsC]), _, hK, rfl⟩, ?_⟩
        rw [cell_arr hheap, show off * sz2 + (i * sz2 + j) = (off + i) * sz2 + j from by rw [Nat.add_mul]; omega]
        simp [hs]
      · exact (hv _ x j y _ hx hy (by simp [hs])).mono hkept
  case rmp id =>
    simp only [VRc, VR0] at h
    obtain ⟨b, hK, rfl⟩ := h
    cases hb : hp id with
    | none => simp only [VRc, VR0]
    | some bl =>
      have hbr := hr.blk id bl _ hb hK
      cases bl <;> simp only [BR] at hbr
      obtain ⟨ents, clock, hheap, hok, hk, hv⟩ := hbr
      simp only [VRc, VR0]
      exact .mp b _ ents clock (fun off => .inr ⟨id, hi id (by simp [viewIdsC]), _, hK, rfl⟩) hheap hok (fun i p e hp he => (hk i p e hp he).mono hkept) (fun i p e hp he => (hv i p e hp he).mono hkept)
  case func f cap =>
    cases cap with
    | nil =>
      obtain ⟨cs, h1, h2, h3⟩ := h
      exact ⟨cs, h1, h2, fun j y c hy hc => by simp at hy⟩
    | cons => simp only [VRc, VR0]

theorem VR.view {nG : Nat} {G0 : Nat → Option Obj} {K : KM} {S : Stb} {hp : Nat → Option Blk} {w : World} (hr : HRel nG G0 K S hp w) {ids : List Nat} {y : AV} {u : Value} (h : VR K S w y u) (hi : ∀ id ∈ viewIds y, id ∈ ids) (ht : ∀ zs, y ≠ .tup zs) :
    VR (fun _ => none) (viewS K S ids) w (viewA hp y) u := by
  cases y
  case tup zs => exact absurd rfl (ht zs)
  case agg cs =>
    obtain ⟨vs, h1, h2, h3⟩ := VR_agg h
    simp only [viewA, VR, VRa]
    refine ⟨vs, h1, by simpa using h2, fun j y c hy hc => ?_⟩
    rw [List.getElem?_map] at hy
    cases hq : cs[j]? with
    | none => rw [hq] at hy; cases hy
    | some q =>
      rw [hq] at hy; cases hy
      exact (h3 j q c hq hc).view hr fun id hid => hi id (by simp only [viewIds, List.mem_flatMap]; exact ⟨q, List.mem_of_getElem? hq, hid⟩)
  all_goals
    simp only [VR, VRa] at h
    exact (VRc.view hr h hi).vr
end Go.Ab

namespace Go.Ab

def fixN : Option Nat → AV → AV
  | some sz, .nils => .sl sz true none []
  | _, v => v

theorem VR.fixN {K : KM} {S : Stb} {w : World} {y : AV} {u : Value} (h : VR K S w y u) (s : Option Nat) : VR K S w (fixN s y) u := by
  cases s with
  | none => exact h
  | some sz =>
    cases y <;> try exact h
    have := VR_nils h
    subst this
    exact (PR.slNil sz).vr

theorem viewA_congr {hp hp0 : Nat → Option Blk} {y : AV} (h : ∀ id ∈ viewIds y, hp id = hp0 id) : viewA hp y = viewA hp0 y := by
  have key : ∀ z : AV, (∀ id ∈ viewIdsC z, hp id = hp0 id) → viewC hp z = viewC hp0 z := by
    intro z hz
    cases z <;> simp only [viewC]
    · rw [hz _ (by simp [viewIdsC])]
    · rw [hz _ (by simp [viewIdsC])]
  cases y <;> simp only [viewA] <;> try exact key _ h
  congr 1
  apply List.map_congr_left
  intro z hz
  exact key z fun id hid => h id (by simp only [viewIds, List.mem_flatMap]; exact ⟨z, hz, hid⟩)

section
variable {nG : Nat} {G0 : Nat → Option Obj} {n0 : Nat} {K : KM} {S S' : Stb} {hp : Nat → Option Blk} {w w' : World}

theorem HRel.klt (h : HRel nG G0 K S hp w) {id : Nat} {ki : KI} {b : Nat} (hi : K id = some ki) (hb : ki.blk = some b) : b < w.heap.size := by
  have hd := h.dom id
  rw [hi] at hd
  obtain ⟨bl', hbl'⟩ := Option.isSome_iff_exists.1 hd.symm
  exact (h.blk id bl' ki hbl' hi).lt hb

/-- Nothing that was there has turned; cells of new blocks have become stable. -/
theorem HRel.ext (h : HRel nG G0 K S hp w) (hos : w'.os = w.os) (htape : w'.tape = w.tape) (hout : w'.output = w.output) (hsz : w.heap.size ≤ w'.heap.size)
    (hf : ∀ b, b < w.heap.size → w'.heap[b]? = w.heap[b]?) (hS : ∀ b off, S' b off → b < w'.heap.size) :
    HRel nG G0 K (fun b off => S b off ∨ (w.heap.size ≤ b ∧ S' b off)) hp w' ∧ Ext n0 K S w K (fun b off => S b off ∨ (w.heap.size ≤ b ∧ S' b off)) w' := by
  have hkept : Kept S w (fun b off => S b off ∨ (w.heap.size ≤ b ∧ S' b off)) w' :=
    ⟨fun _ _ h => .inl h, fun b off hs => cell_of_heap (hf b (h.lt b off hs)), fun b hs => hf b (h.lt b 0 (hs 0))⟩
  refine ⟨⟨h.dom, fun id bl ki hb hk => (h.blk id bl ki hb hk).mono (KLe.refl _) hkept fun b hbk => hf b (h.klt hk hbk), h.inj, ?_, ?_, h.glob, ?_, Nat.le_trans h.nG hsz⟩, hos, htape, hout, hsz, fun b hb _ => hf b hb, fun id ki b hk hb => .inl ⟨id, ki, hk, hb⟩, hkept, ?_, fun id ki _ hk => ⟨ki, hk, kle.refl ki⟩⟩
  · rintro b off (hs | ⟨_, hs⟩)
    · exact Nat.lt_of_lt_of_le (h.lt b off hs) hsz
    · exact hS b off hs
  · rintro b off id ki (hs | ⟨hge, _⟩) hk hb
    · exact h.apart b off id ki hs hk hb
    · have := h.klt hk hb; omega
  · intro b hb
    rw [hf b (Nat.lt_of_lt_of_le hb h.nG)]
    exact h.fix b hb
  · rintro b off (hs | ⟨hge, _⟩)
    · exact .inl hs
    · exact .inr (.inl hge)
end

section ops
variable {P : Program} {nG : Nat} {G0 : Nat → Option Obj} {n0 : Nat} {o : Oper} {rd : List Nat} {tm0 : Nat → AV} {hp0 : Nat → Option Blk}

theorem zipWith_get {α β γ : Type} (f : α → β → γ) (xs : List α) (ys : List β) (_hl : ys.length = xs.length) (j : Nat) : (List.zipWith f xs ys)[j]? = match xs[j]?, ys[j]? with | some a, some b => some (f a b) | _, _ => none := by
  rw [List.getElem?_zipWith]
  cases xs[j]? <;> cases ys[j]? <;> rfl

/-- A function without references is called. -/
theorem snd_call_pure {g : Operand} {args : Array Operand} {ts : Array TypeId} {f : FuncId} {szs : List (Option Nat)} {r : AV} (ho : o.op = .call { callee := .value g, args := args, argTypes := ts }) (hg : evA tm0 g = .func f [])
    (hl : szs.length = args.size) (hflat : (args.toList.all fun x => match evA tm0 x with | .tup _ => false | _ => true) = true)
    (hgood : Good P nG G0 f (List.zipWith (fun x s => viewA hp0 (fixN s (evA tm0 x))) args.toList szs) [] r []) (hrd : ∀ x ∈ args.toList, ∀ id ∈ viewIds (evA tm0 x), id ∈ rd)
    (hpl : r.plain = true ∨ ∀ x ∈ args.toList, viewIds (evA tm0 x) = []) : OpSnd P nG G0 n0 o r [] rd tm0 hp0 := by
  intro n K S tm hp a w hr hx hh _ next QC hn
  have hops : ∀ x ∈ args.toList, x ∈ o.op.operands := fun x hm => by rw [ho]; simp [Op.operands, Call.operands]; right; simpa using hm
  obtain ⟨⟨fn, hf, hb, hnn⟩, hcall⟩ := hgood
  obtain ⟨cs, hgv, hcl, _⟩ := VR_func (hg ▸ hx g (by rw [ho]; simp [Op.operands, Call.operands]) ▸ hr.ev g)
  obtain rfl : cs = [] := List.eq_nil_of_length_eq_zero (by simpa using hcl)
  unfold Oper.wp
  rw [exec_call ho hgv hf hb hnn w, Oper.upon_enter]
  let ids := args.toList.flatMap fun x => viewIds (evA tm0 x)
  have hvl : ∀ b off, viewS K S ids b off → b < w.heap.size := by
    rintro b off (hs | ⟨id, _, ki, hk, hb'⟩)
    · exact hr.heap.lt b off hs
    · refine hr.heap.klt hk (b := b) ?_
      cases ki <;> simp at hb' <;> simp [KI.blk, hb']
  have hrel : HRel nG G0 (fun _ => none) (viewS K S ids) (hpF []) w :=
    ⟨fun _ => rfl, fun id bl ki _ hk => (by cases hk), fun id id' ki ki' b hk => (by cases hk), hvl, fun b off id ki _ hk => (by cases hk), fun id ki b hk => (by cases hk), hr.heap.fix, hr.heap.nG⟩
  have hargs : VRs (fun _ => none) (viewS K S ids) w (List.zipWith (fun x s => viewA hp0 (fixN s (evA tm0 x))) args.toList szs) (args.map a.eval ++ (#[] : Array Value)).toList := by
    refine ⟨by simp [hl], fun j y u hy hu => ?_⟩
    rw [zipWith_get _ _ _ (by simpa using hl)] at hy
    simp only [Array.append_empty, Array.toList_map, List.getElem?_map] at hu
    cases hq : args.toList[j]? with
    | none => rw [hq] at hy; cases hy
    | some x =>
      rw [hq] at hy hu
      cases hs : szs[j]? with
      | none => rw [hs] at hy; cases hy
      | some s =>
        rw [hs] at hy
        cases hy
        cases hu
        have hm := List.mem_of_getElem? hq
        have hv := (hx x (hops x hm) ▸ hr.ev x).fixN s
        have hvi : ∀ id ∈ viewIds (fixN s (evA tm0 x)), id ∈ viewIds (evA tm0 x) := by
          intro id hid
          cases s with
          | none => exact hid
          | some sz => generalize evA tm0 x = y at hid ⊢; cases y <;> first | exact hid | (simp [fixN, viewIds, viewIdsC] at hid)
        rw [← viewA_congr (hp := hp) (fun id hid => hh id (hrd x hm id (hvi id hid)))]
        refine VR.view hr.heap hv (fun id hid => List.mem_flatMap.2 ⟨x, hm, hvi id hid⟩) fun zs he => ?_
        have := List.all_eq_true.1 hflat x hm
        cases s with
        | none => simp only [fixN] at he; rw [he] at this; simp at this
        | some sz => generalize evA tm0 x = y at he this; cases y <;> simp [fixN] at he this
  have hc := hcall w _ _ _ hrel hargs
  rw [Array.toArray_toList] at hc
  refine Calls.mono hc fun e w' he => ?_
  obtain ⟨v, K', S', rfl, hrel', hv, hext⟩ := he
  have hK' : ∀ id, K' id = none := fun id => by
    have := hrel'.dom id
    cases h : K' id with
    | none => rfl
    | some => rw [h] at this; simp [hpF] at this
  have hKle : KLe K' K := fun id ki hk => by rw [hK' id] at hk; cases hk
  obtain ⟨g1, g2⟩ := hr.heap.ext (n0 := n0) (S' := S') hext.os hext.tape hext.output hext.size (fun b hb' => hext.frame b hb' fun id ki hk => by cases hk) (fun b off hs => hrel'.lt b off hs)
  refine hn v w' K _ ?_ g1 g2 (KLe.refl _)
  rcases hpl with hpl | hpl
  · exact hv.plain hpl
  · refine hv.mono hKle ⟨fun b off hs => ?_, fun _ _ _ => rfl, fun _ _ => rfl⟩
    rcases hext.snew b off hs with h1 | h1 | ⟨id, ki, h1, _⟩
    · rcases h1 with h1 | ⟨id, hid, _⟩
      · exact .inl h1
      · obtain ⟨x, hm, hid⟩ := List.mem_flatMap.1 hid
        rw [hpl x hm] at hid
        cases hid
    · exact .inr ⟨h1, hs⟩
    · cases h1

/-- Where a number stands in a list. -/
def pos : List Nat → Nat → Option Nat
  | [], _ => none
  | x :: r, id => if x == id then some 0 else (pos r id).map (· + 1)

theorem pos_get : ∀ {L : List Nat} {id i : Nat}, pos L id = some i → L[i]? = some id
  | x :: r, id, i, h => by
    simp only [pos] at h
    split at h
    · rename_i he
      cases h
      simpa using he
    · cases hq : pos r id with
      | none => rw [hq] at h; cases h
      | some k => rw [hq] at h; cases h; simpa using pos_get hq

theorem get_pos : ∀ {L : List Nat} {id i : Nat}, L.Nodup → L[i]? = some id → pos L id = some i
  | [], _, _, _, h => by simp at h
  | x :: r, id, 0, _, h => by simp at h; subst h; simp [pos]
  | x :: r, id, i + 1, hn, h => by
    simp at h hn
    have hne : x ≠ id := by rintro rfl; exact hn.1 (List.mem_of_getElem? h)
    simp [pos, hne, get_pos hn.2 h]

theorem pos_none {L : List Nat} {id : Nat} (h : pos L id = none) : id ∉ L := by
  induction L with
  | nil => simp
  | cons x r ih =>
    simp only [pos] at h
    split at h
    · cases h
    · rename_i hne
      simp at h hne
      simp only [List.mem_cons, not_or]
      exact ⟨fun e => hne e.symm, ih h⟩

/-- What a call writes: the blocks 'ids', as the callee left them. -/
def wsOf (ρ : Nat → Option Nat) : List Nat → List (Option Blk) → List (Nat × Blk)
  | id :: r, some b :: s => (id, renB ρ b) :: wsOf ρ r s
  | _ :: r, none :: s => wsOf ρ r s
  | _, _ => []

theorem wsOf_upd (ρ : Nat → Option Nat) : ∀ (ids : List Nat) (H : List (Option Blk)) (hp : Nat → Option Blk), ids.Nodup → ids.length = H.length → (∀ (i id : Nat), ids[i]? = some id → H[i]? = some none → hp id = none) →
    ∀ id, updH hp (wsOf ρ ids H) id = match pos ids id with | some i => (H.getD i none).map (renB ρ) | none => hp id
  | [], [], hp, _, _, _, id => by simp [wsOf, updH, pos]
  | x :: r, b :: s, hp, hnd, hl, hno, id => by
    have hnd' := List.nodup_cons.1 hnd
    cases b with
    | none =>
      simp only [wsOf]
      rw [wsOf_upd ρ r s hp hnd'.2 (by simpa using hl) (fun i id h1 h2 => hno (i + 1) id (by simpa using h1) (by simpa using h2))]
      by_cases he : x = id
      · subst he
        have : pos r x = none := by
          cases hq : pos r x with
          | none => rfl
          | some k => exact absurd (List.mem_of_getElem? (pos_get hq)) hnd'.1
        simp [this, pos]
        exact hno 0 x rfl rfl
      · simp only [pos, beq_iff_eq, he, if_false]
        cases hq : pos r id <;> simp
    | some b =>
      simp only [wsOf, updH]
      rw [wsOf_upd ρ r s _ hnd'.2 (by simpa using hl) (fun i id h1 h2 => by
        have hne : id ≠ x := by rintro rfl; exact hnd'.1 (List.mem_of_getElem? h1)
        rw [if_neg hne]
        exact hno (i + 1) id (by simpa using h1) (by simpa using h2))]
      by_cases he : x = id
      · subst he
        have : pos r x = none := by
          cases hq : pos r x with
          | none => rfl
          | some k => exact absurd (List.mem_of_getElem? (pos_get hq)) hnd'.1
        simp [this, pos]
      · have he' : id ≠ x := fun h => he h.symm
        simp only [pos, beq_iff_eq, he, if_false]
        cases hq : pos r id <;> simp [he']
  | [], _ :: _, _, _, hl, _, _ => by simp at hl
  | _ :: _, [], _, _, hl, _, _ => by simp at hl

theorem wsOf_mem (ρ : Nat → Option Nat) : ∀ (ids : List Nat) (H : List (Option Blk)) (i : Nat) (id : Nat) (b : Blk), ids[i]? = some id → H[i]? = some (some b) → (id, renB ρ b) ∈ wsOf ρ ids H
  | x :: r, c :: s, 0, id, b, h1, h2 => by
    simp at h1 h2
    subst h1; subst h2
    simp [wsOf]
  | x :: r, c :: s, i + 1, id, b, h1, h2 => by
    have := wsOf_mem ρ r s i id b (by simpa using h1) (by simpa using h2)
    cases c <;> simp [wsOf, this]
  | [], _, _, _, _, h1, _ => by simp at h1
  | _ :: _, [], _, _, _, _, h2 => by simp at h2

/-- A function is called that may write the blocks L of its caller; it leaves new blocks, which come to be 'nw'. -/
theorem snd_call_gen {g : Operand} {args : Array Operand} {ts : Array TypeId} {f : FuncId} {szs : List (Option Nat)} {cap : List AV} {L nw : List Nat} {r : AV} {H' : List (Option Blk)}
    (ho : o.op = .call { callee := .value g, args := args, argTypes := ts }) (hg : evA tm0 g = .func f cap) (hl : szs.length = args.size)
    (hnd : (L ++ nw).Nodup) (hlen : (L ++ nw).length = H'.length) (hLrd : ∀ id ∈ L, id ∈ rd) (hnrd : ∀ id ∈ nw, id ∉ rd)
    (hL : ∀ id ∈ L, match hp0 id with | some (.grow _ _) => False | some _ => True | none => False)
    (hgood : Good P nG G0 f (List.zipWith (fun x s => renV (pos L) (fixN s (evA tm0 x))) args.toList szs ++ cap.map (renR (pos L))) (L.map fun id => (hp0 id).map (renB (pos L))) r H')
    (hnw : ∀ id ∈ nw, ∀ (i : Nat), (L ++ nw)[i]? = some id → H'[i]? ≠ some none) :
    OpSnd P nG G0 n0 o (renV (fun i => (L ++ nw)[i]?) r) (wsOf (fun i => (L ++ nw)[i]?) (L ++ nw) H') rd tm0 hp0 := by
  intro n K S tm hp a w hr hx hh hws next QC hn
  have hops : ∀ x ∈ args.toList, x ∈ o.op.operands := fun x hm => by rw [ho]; simp [Op.operands, Call.operands]; right; simpa using hm
  obtain ⟨⟨fn, hf, hb, hnn⟩, hcall⟩ := hgood
  obtain ⟨cs, hgv, hcl, hcv⟩ := VR_func (hg ▸ hx g (by rw [ho]; simp [Op.operands, Call.operands]) ▸ hr.ev g)
  unfold Oper.wp
  rw [exec_call ho hgv hf hb hnn w, Oper.upon_enter]
  have hndL : L.Nodup := (List.nodup_append.1 hnd).1
  -- the callee's heap
  have hLhp : ∀ id ∈ L, ∃ bl, hp id = some bl ∧ hp0 id = some bl ∧ ∀ sz m, bl ≠ .grow sz m := by
    intro id hid
    have h1 := hL id hid
    rw [hh id (hLrd id hid)]
    cases hb' : hp0 id with
    | none => rw [hb'] at h1; exact h1.elim
    | some bl => rw [hb'] at h1; exact ⟨bl, rfl, rfl, fun sz m e => by subst e; exact h1⟩
  have hLK : ∀ id ∈ L, ∃ ki, K id = some ki ∧ (∀ l sz m, ki ≠ .grow l sz m) ∧ ∃ b, ki.blk = some b := by
    intro id hid
    obtain ⟨bl, h1, _, h2⟩ := hLhp id hid
    have hd := hr.heap.dom id
    rw [h1] at hd
    obtain ⟨ki, hki⟩ := Option.isSome_iff_exists.1 hd
    have hbr := hr.heap.blk id bl ki h1 hki
    refine ⟨ki, hki, fun l sz m e => ?_, ?_⟩
    · subst e
      cases bl <;> simp only [BR] at hbr
      exact h2 _ _ rfl
    · cases bl <;> cases ki <;> simp only [BR] at hbr <;> first | exact ⟨_, rfl⟩ | exact absurd rfl (h2 _ _)
  let Kc : KM := fun i => match L[i]? with | some id => K id | none => none
  have hKc : ∀ i id, L[i]? = some id → Kc i = K id := fun i id h => by simp [Kc, h]
  have hKcs : ∀ i ki, Kc i = some ki → ∃ id, L[i]? = some id ∧ K id = some ki := by
    intro i ki h
    cases hq : L[i]? with
    | none => simp [Kc, hq] at h
    | some id => exact ⟨id, rfl, by rw [← hKc i id hq]; exact h⟩
  have hρ : ∀ id i ki, pos L id = some i → K id = some ki → Kc i = some ki := fun id i ki h1 h2 => by rw [hKc i id (pos_get h1)]; exact h2
  have hpfc : ∀ i bl, hpF (L.map fun id => (hp0 id).map (renB (pos L))) i = some bl → ∃ id bl0, L[i]? = some id ∧ hp id = some bl0 ∧ bl = renB (pos L) bl0 := by
    intro i bl h
    simp only [hpF, List.getD_eq_getElem?_getD, List.getElem?_map] at h
    cases hq : L[i]? with
    | none => rw [hq] at h; simp at h
    | some id =>
      rw [hq] at h
      obtain ⟨bl0, h1, h2, _⟩ := hLhp id (List.mem_of_getElem? hq)
      simp [h2] at h
      exact ⟨id, bl0, rfl, h1, h.symm⟩
  have hrel : HRel nG G0 Kc S (hpF (L.map fun id => (hp0 id).map (renB (pos L)))) w := by
    refine ⟨fun i => ?_, fun i bl ki hb' hk => ?_, fun i j ki kj b hi hj hbi hbj => ?_, hr.heap.lt, fun b off i ki hs hk hbk => ?_, fun i ki b hk hbk => ?_, hr.heap.fix, hr.heap.nG⟩
    · simp only [hpF, List.getD_eq_getElem?_getD, List.getElem?_map]
      cases hq : L[i]? with
      | none => simp [Kc, hq]
      | some id =>
        obtain ⟨bl0, h1, h2, _⟩ := hLhp id (List.mem_of_getElem? hq)
        obtain ⟨ki, h3, _⟩ := hLK id (List.mem_of_getElem? hq)
        simp [Kc, hq, h2, h3]
    · obtain ⟨id, bl0, h1, h2, rfl⟩ := hpfc i bl hb'
      obtain ⟨id', h3, h4⟩ := hKcs i ki hk
      rw [h1] at h3; cases h3
      exact (hr.heap.blk id bl0 ki h2 h4).ren hρ (Kept.refl S w) fun _ _ => rfl
    · obtain ⟨id, h1, h2⟩ := hKcs i ki hi
      obtain ⟨id', h3, h4⟩ := hKcs j kj hj
      have := hr.heap.inj id id' ki kj b h2 h4 hbi hbj
      subst this
      have e1 := get_pos hndL h1
      have e2 := get_pos hndL h3
      rw [e1] at e2; cases e2; rfl
    · obtain ⟨id, h1, h2⟩ := hKcs i ki hk
      exact hr.heap.apart b off id ki hs h2 hbk
    · obtain ⟨id, h1, h2⟩ := hKcs i ki hk
      exact hr.heap.glob id ki b h2 hbk
  have hargs : VRs Kc S w (List.zipWith (fun x s => renV (pos L) (fixN s (evA tm0 x))) args.toList szs ++ cap.map (renR (pos L))) (args.map a.eval ++ cs.toArray).toList := by
    have hzl : (List.zipWith (fun x s => renV (pos L) (fixN s (evA tm0 x))) args.toList szs).length = args.size := by simp [hl]
    refine ⟨by simp [hl, hcl], fun j y u hy hu => ?_⟩
    simp only [Array.toList_append, Array.toList_map] at hu
    by_cases hj : j < args.size
    · rw [List.getElem?_append_left (by omega)] at hy
      rw [List.getElem?_append_left (by simpa using hj), List.getElem?_map] at hu
      rw [zipWith_get _ _ _ (by simpa using hl)] at hy
      cases hq : args.toList[j]? with
      | none => rw [hq] at hy; cases hy
      | some x =>
        rw [hq] at hy hu
        cases hs : szs[j]? with
        | none => rw [hs] at hy; cases hy
        | some s =>
          rw [hs] at hy
          cases hy
          cases hu
          exact ((hx x (hops x (List.mem_of_getElem? hq)) ▸ hr.ev x).fixN s).ren hρ (Kept.refl S w)
    · rw [List.getElem?_append_right (by omega), hzl, List.getElem?_map] at hy
      rw [List.getElem?_append_right (by simpa using hj)] at hu
      simp only [List.length_map, Array.length_toList] at hu
      cases hq : cap[j - args.size]? with
      | none => rw [hq] at hy; cases hy
      | some c =>
        rw [hq] at hy; cases hy
        have := (hcv _ c u hq (by simpa using hu)).ren hρ (Kept.refl S w)
        generalize renR (pos L) c = z at this ⊢
        cases z <;> simp only [VR0] at this <;> simp only [VR, VRa, VRc, VR0] <;> exact this
  have hc := hcall w _ _ _ hrel hargs
  rw [Array.toArray_toList] at hc
  refine Calls.mono hc fun e w' he => ?_
  obtain ⟨v, K', S', rfl, hrel', hv, hext⟩ := he
  have hHL : (L.map fun id => (hp0 id).map (renB (pos L))).length = L.length := by simp
  rw [hHL] at hext
  -- the caller's heap behind the call
  let ids := L ++ nw
  have hids : ids = L ++ nw := rfl
  have hposL : ∀ i id, L[i]? = some id → ids[i]? = some id := fun i id h => by rw [hids, List.getElem?_append_left (List.getElem?_eq_some_iff.1 h).1]; exact h
  let K2 : KM := fun id => match pos ids id with | some i => K' i | none => K id
  have hK2 : ∀ i id, ids[i]? = some id → K2 id = K' i := fun i id h => by simp only [K2]; rw [show pos ids id = some i from get_pos hnd h]
  have hK2o : ∀ id, pos ids id = none → K2 id = K id := fun id h => by simp [K2, h]
  have hnwfresh : ∀ id ∈ nw, hp id = none ∧ n0 ≤ id := by
    intro id hid
    obtain ⟨i, hi⟩ := List.mem_iff_getElem?.1 (show id ∈ ids from List.mem_append_right _ hid)
    have hlt : i < H'.length := by rw [← hlen]; exact (List.getElem?_eq_some_iff.1 hi).1
    cases hq : H'[i] with
    | none => exact absurd (by rw [List.getElem?_eq_getElem hlt, hq]) (hnw id hid i hi)
    | some bl =>
      have hm := wsOf_mem (fun i => ids[i]?) ids H' i id bl hi (by rw [List.getElem?_eq_getElem hlt, hq])
      exact (hws _ hm).resolve_left (hnrd id hid)
  have hS2 : ∀ b off, S' b off → S b off ∨ w.heap.size ≤ b := by
    intro b off hs
    rcases hext.snew b off hs with h1 | h1 | ⟨i, ki, h1, h2⟩
    · exact .inl h1
    · exact .inr h1
    · obtain ⟨id, h3, h4⟩ := hKcs i ki h1
      obtain ⟨ki', h5, h6⟩ := hext.base i ki (List.getElem?_eq_some_iff.1 h3).1 h1
      obtain ⟨ki2, h7, h8, _⟩ := hLK id (List.mem_of_getElem? h3)
      rw [h4] at h7; cases h7
      have hb' : ki'.blk = some b := by
        cases ki <;> cases ki' <;> simp [kle] at h6 <;> simp_all [KI.blk]
      obtain ⟨l, sz, m, he, _⟩ := hrel'.apart b off i ki' hs h5 hb'
      subst he
      cases ki <;> simp [kle] at h6
      exact absurd rfl (h8 _ _ _)
  have hKle : KLe K K2 := by
    intro id ki hk
    cases hq : pos ids id with
    | none => exact ⟨ki, by rw [hK2o id hq]; exact hk, kle.refl ki⟩
    | some i =>
      have hi := pos_get hq
      by_cases hiL : i < L.length
      · have hL2 : L[i]? = some id := by rw [hids, List.getElem?_append_left hiL] at hi; exact hi
        obtain ⟨ki', h1, h2⟩ := hext.base i ki hiL (by rw [hKc i id hL2]; exact hk)
        exact ⟨ki', by rw [hK2 i id hi]; exact h1, h2⟩
      · have hmem : id ∈ nw := by
          rw [hids, List.getElem?_append_right (by omega)] at hi
          exact List.mem_of_getElem? hi
        rw [hr.heap.dom_none (hnwfresh id hmem).1] at hk
        cases hk
  have hframe : ∀ b, b < w.heap.size → (∀ id ∈ L, ∀ ki, K id = some ki → ki.blk ≠ some b) → w'.heap[b]? = w.heap[b]? := by
    intro b hb' hne
    refine hext.frame b hb' fun i ki hk => ?_
    obtain ⟨id, h1, h2⟩ := hKcs i ki hk
    exact hne id (List.mem_of_getElem? h1) ki h2
  have hρ' : ∀ i id ki, ids[i]? = some id → K' i = some ki → K2 id = some ki := fun i id ki h1 h2 => by rw [hK2 i id h1]; exact h2
  have hnewblk : ∀ i ki b, L.length ≤ i → K' i = some ki → ki.blk = some b → w.heap.size ≤ b := by
    intro i ki b hi hk hbk
    rcases hext.new i ki b hk hbk with ⟨j, kj, h1, h2⟩ | h1
    · obtain ⟨id, h3, h4⟩ := hKcs j kj h1
      obtain ⟨kj', h5, h6⟩ := hext.base j kj (List.getElem?_eq_some_iff.1 h3).1 h1
      obtain ⟨ki2, h7, h8, _⟩ := hLK id (List.mem_of_getElem? h3)
      rw [h4] at h7; cases h7
      have hb' : kj'.blk = some b := by
        cases kj <;> cases kj' <;> simp [kle] at h6 <;> first | (simp_all [KI.blk]; done) | exact absurd rfl (h8 _ _ _)
      have := hrel'.inj i j ki kj' b hk h5 hbk hb'
      have := (List.getElem?_eq_some_iff.1 h3).1
      omega
    · exact h1
  have hLblk : ∀ i ki b, i < L.length → K' i = some ki → ki.blk = some b → ∃ id ki0, L[i]? = some id ∧ K id = some ki0 ∧ ki0.blk = some b := by
    intro i ki b hi hk hbk
    obtain ⟨id, hid⟩ : ∃ id, L[i]? = some id := ⟨_, List.getElem?_eq_getElem hi⟩
    obtain ⟨ki0, h1, h2, b0, h3⟩ := hLK id (List.mem_of_getElem? hid)
    obtain ⟨ki', h5, h6⟩ := hext.base i ki0 hi (by rw [hKc i id hid]; exact h1)
    rw [hk] at h5; cases h5
    refine ⟨id, ki0, hid, h1, ?_⟩
    cases ki0 <;> cases ki <;> simp [kle] at h6 <;> first | (simp_all [KI.blk]; done) | exact absurd rfl (h2 _ _ _)
  have hkept2 : Kept S w S' w' := hext.kept
  have hupd := wsOf_upd (fun i => ids[i]?) ids H' hp hnd hlen (fun i id h1 h2 => by
    by_cases hiL : i < L.length
    · exfalso
      have hL2 : L[i]? = some id := by rw [hids, List.getElem?_append_left hiL] at h1; exact h1
      obtain ⟨ki, h3, _⟩ := hLK id (List.mem_of_getElem? hL2)
      obtain ⟨ki', h5, _⟩ := hext.base i ki hiL (by rw [hKc i id hL2]; exact h3)
      have := hrel'.dom i
      rw [h5] at this
      simp [hpF, h2] at this
    · rw [hids, List.getElem?_append_right (by omega)] at h1
      exact (hnwfresh id (List.mem_of_getElem? h1)).1)
  have hold : ∀ id, pos ids id = none → ∀ ki b, K id = some ki → ki.blk = some b → w'.heap[b]? = w.heap[b]? := by
    intro id hq ki b hk hbk
    refine hframe b (hr.heap.klt hk hbk) fun id' hid' ki' hk' hb' => ?_
    have := hr.heap.inj id id' ki ki' b hk hk' hbk hb'
    subst this
    exact pos_none hq (List.mem_append_left _ hid')
  refine hn v w' K2 S' (hv.ren hρ' (Kept.refl S' w')) ⟨fun id => ?_, fun id bl ki hb' hk => ?_, fun id id' ki ki' b hi hj hbi hbj => ?_, hrel'.lt, fun b off id ki hs hk hbk => ?_, fun id ki b hk hbk => ?_, hrel'.fix, hrel'.nG⟩
    ⟨hext.os, hext.tape, hext.output, hext.size, fun b hb' hne => hframe b hb' fun id _ ki hk => hne id ki hk, fun id ki b hk hbk => ?_, hkept2, fun b off hs => ?_, fun id ki _ hk => hKle id ki hk⟩ hKle
  · rw [hupd id]
    cases hq : pos ids id with
    | none => rw [hK2o id hq]; exact hr.heap.dom id
    | some i =>
      rw [hK2 i id (pos_get hq)]
      have := hrel'.dom i
      simp only [hpF] at this
      simp [this]
  · rw [hupd id] at hb'
    cases hq : pos ids id with
    | none =>
      rw [hq] at hb'
      rw [hK2o id hq] at hk
      exact (hr.heap.blk id bl ki hb' hk).mono hKle hkept2 fun b hbk => hold id hq ki b hk hbk
    | some i =>
      rw [hq] at hb'
      rw [hK2 i id (pos_get hq)] at hk
      simp only [Option.map_eq_some_iff] at hb'
      obtain ⟨bl0, h1, rfl⟩ := hb'
      exact (hrel'.blk i bl0 ki h1 hk).ren hρ' (Kept.refl S' w') fun _ _ => rfl
  · have side : ∀ id ki b, K2 id = some ki → ki.blk = some b → (∃ i, pos ids id = some i ∧ K' i = some ki) ∨ (pos ids id = none ∧ K id = some ki) := by
      intro id ki b hk _
      cases hq : pos ids id with
      | none => exact .inr ⟨rfl, by rw [← hK2o id hq]; exact hk⟩
      | some i => exact .inl ⟨i, rfl, by rw [← hK2 i id (pos_get hq)]; exact hk⟩
    rcases side id ki b hi hbi with ⟨i, p1, k1⟩ | ⟨p1, k1⟩ <;> rcases side id' ki' b hj hbj with ⟨j, p2, k2⟩ | ⟨p2, k2⟩
    · have := hrel'.inj i j ki ki' b k1 k2 hbi hbj
      subst this
      have e1 := pos_get p1
      have e2 := pos_get p2
      rw [e1] at e2; cases e2; rfl
    · exfalso
      by_cases hiL : i < L.length
      · obtain ⟨id2, ki0, h1, h2, h3⟩ := hLblk i ki b hiL k1 hbi
        have := hr.heap.inj id2 id' ki0 ki' b h2 k2 h3 hbj
        subst this
        exact pos_none p2 (List.mem_append_left _ (List.mem_of_getElem? h1))
      · have := hnewblk i ki b (by omega) k1 hbi
        have := hr.heap.klt k2 hbj
        omega
    · exfalso
      by_cases hiL : j < L.length
      · obtain ⟨id2, ki0, h1, h2, h3⟩ := hLblk j ki' b hiL k2 hbj
        have := hr.heap.inj id2 id ki0 ki b h2 k1 h3 hbi
        subst this
        exact pos_none p1 (List.mem_append_left _ (List.mem_of_getElem? h1))
      · have := hnewblk j ki' b (by omega) k2 hbj
        have := hr.heap.klt k1 hbi
        omega
    · exact hr.heap.inj id id' ki ki' b k1 k2 hbi hbj
  · cases hq : pos ids id with
    | none =>
      rw [hK2o id hq] at hk
      rcases hS2 b off hs with h1 | h1
      · exact hr.heap.apart b off id ki h1 hk hbk
      · have := hr.heap.klt hk hbk; omega
    | some i =>
      rw [hK2 i id (pos_get hq)] at hk
      exact hrel'.apart b off i ki hs hk hbk
  · cases hq : pos ids id with
    | none => rw [hK2o id hq] at hk; exact hr.heap.glob id ki b hk hbk
    | some i => rw [hK2 i id (pos_get hq)] at hk; exact hrel'.glob i ki b hk hbk
  · cases hq : pos ids id with
    | none => rw [hK2o id hq] at hk; exact .inl ⟨id, ki, hk, hbk⟩
    | some i =>
      rw [hK2 i id (pos_get hq)] at hk
      by_cases hiL : i < L.length
      · obtain ⟨id2, ki0, h1, h2, h3⟩ := hLblk i ki b hiL hk hbk
        exact .inl ⟨id2, ki0, h2, h3⟩
      · exact .inr (hnewblk i ki b (by omega) hk hbk)
  · rcases hS2 b off hs with h1 | h1
    · exact .inl h1
    · exact .inr (.inl h1)
end ops
end Go.Ab

namespace Go.Ab
open Go.MapKept (run_getObj_map run_setObj_map run_checkKey run_findKey run_keyThatStays IsKey)

def mlook (kd : IntKind) (n : Int) : List (AV × AV) → Option (Option AV)
  | [] => some none
  | p :: r =>
    match p.1 with
    | .int kd' a => bif kd' == kd then (bif a == n then some (some p.2) else mlook kd n r) else none
    | _ => none

def mlookD (kd : IntKind) (n : Int) (d : AV) (es : List (AV × AV)) : Option (AV × Bool) :=
  match mlook kd n es with
  | none => none
  | some none => some (d, false)
  | some (some v) => some (v, true)

def mupd (kd : IntKind) (n : Int) (v : AV) : List (AV × AV) → Option (List (AV × AV))
  | [] => some [(.int kd n, v)]
  | p :: r =>
    match p.1 with
    | .int kd' a => bif kd' == kd then (bif a == n then some ((.int kd n, v) :: r) else (mupd kd n v r).map (p :: ·)) else none
    | _ => none

section
variable {S : Stb} {w : World}

theorem findNow_look {kd kd0 : IntKind} {n : Int} : ∀ (es : List (AV × AV)) (l : List MapEntry) (i0 : Nat) (r : Option AV), l.length = es.length →
    (∀ (i : Nat) (p : AV × AV) (e : MapEntry), es[i]? = some p → l[i]? = some e → PR S w p.1 e.key) → mlook kd n es = some r →
    match r with
    | none => Instr.findNow (.int kd0) (.int kd n) l i0 = some none
    | some v => ∃ (i : Nat) (p : AV × AV) (e : MapEntry), es[i]? = some p ∧ l[i]? = some e ∧ p.2 = v ∧ e.key = .int kd n ∧ Instr.findNow (.int kd0) (.int kd n) l i0 = some (some (i0 + i, e.val))
  | [], [], i0, r, _, _, h => by simp [mlook] at h; subst h; rfl
  | p :: es, e :: l, i0, r, hl, hk, h => by
    simp only [mlook] at h
    split at h
    · rename_i kd' a hp
      have hke := hk 0 p e rfl rfl
      rw [hp] at hke
      generalize hek : e.key = u at hke
      cases hke
      cases hkd : kd' == kd with
      | false => rw [hkd] at h; cases h
      | true =>
        rw [hkd, cond_true] at h
        have hkd : kd' = kd := by simpa using hkd
        subst hkd
        cases ha : a == n with
        | true =>
          rw [ha, cond_true] at h
          have ha : a = n := by simpa using ha
          subst ha
          cases h
          exact ⟨0, p, e, rfl, rfl, rfl, hek, by simp [Instr.findNow, Instr.sameNow, hek]⟩
        | false =>
          rw [ha, cond_false] at h
          have hne : (n == a) = false := by
            have : a ≠ n := by simpa using ha
            simpa using this.symm
          have ih := findNow_look (kd0 := kd0) es l (i0 + 1) r (by simpa using hl) (fun i p e h1 h2 => hk (i + 1) p e (by simpa using h1) (by simpa using h2)) h
          cases r with
          | none => simp only at ih ⊢; simp [Instr.findNow, Instr.sameNow, hek, hne, ih]
          | some v =>
            obtain ⟨i, p', e', h1, h2, h3, h4, h5⟩ := ih
            exact ⟨i + 1, p', e', by simpa using h1, by simpa using h2, h3, h4, by simp [Instr.findNow, Instr.sameNow, hek, hne, h5]; omega⟩
    · cases h
  | [], _ :: _, _, _, hl, _, _ => by simp at hl
  | _ :: _, [], _, _, hl, _, _ => by simp at hl

theorem mupd_spec {kd : IntKind} {n : Int} {v : AV} : ∀ (es es' : List (AV × AV)), mupd kd n v es = some es' →
    (mlook kd n es = some none ∧ es' = es ++ [(.int kd n, v)]) ∨ ∃ (i : Nat) (p : AV × AV), mlook kd n es = some (some p.2) ∧ es[i]? = some p ∧ p.1 = .int kd n ∧ es' = es.set i (.int kd n, v) ∧ ∀ (j : Nat) (q : AV × AV), j < i → es[j]? = some q → ∃ a, q.1 = .int kd a ∧ a ≠ n
  | [], es', h => by simp [mupd] at h; subst h; exact .inl ⟨rfl, rfl⟩
  | p :: r, es', h => by
    simp only [mupd] at h
    split at h
    · rename_i kd' a hp
      cases hkd : kd' == kd with
      | false => rw [hkd] at h; cases h
      | true =>
        rw [hkd, cond_true] at h
        have hkd' : kd' = kd := by simpa using hkd
        subst hkd'
        cases ha : a == n with
        | true =>
          rw [ha, cond_true] at h
          have ha' : a = n := by simpa using ha
          subst ha'
          cases h
          exact .inr ⟨0, p, by simp [mlook, hp], rfl, hp, rfl, fun j q hj => by omega⟩
        | false =>
          rw [ha, cond_false] at h
          simp only [Option.map_eq_some_iff] at h
          obtain ⟨r', hr', rfl⟩ := h
          have ha' : a ≠ n := by simpa using ha
          rcases mupd_spec r r' hr' with ⟨h1, h2⟩ | ⟨i, q, h1, h2, h3, h4, h5⟩
          · exact .inl ⟨by simp [mlook, hp, ha, h1], by simp [h2]⟩
          · refine .inr ⟨i + 1, q, by simp [mlook, hp, ha, h1], by simpa using h2, h3, by simp [h4], fun j q' hj hq' => ?_⟩
            cases j with
            | zero => simp at hq'; subst hq'; exact ⟨a, hp, ha'⟩
            | succ j => exact h5 j q' (by omega) (by simpa using hq')
    · cases h

theorem findNow_at {kd kd0 : IntKind} {n : Int} : ∀ (es : List (AV × AV)) (l : List MapEntry) (i0 i : Nat) (p : AV × AV), l.length = es.length →
    (∀ (i : Nat) (p : AV × AV) (e : MapEntry), es[i]? = some p → l[i]? = some e → PR S w p.1 e.key) → es[i]? = some p → p.1 = .int kd n → (∀ (j : Nat) (q : AV × AV), j < i → es[j]? = some q → ∃ a, q.1 = .int kd a ∧ a ≠ n) →
    ∃ e, l[i]? = some e ∧ e.key = .int kd n ∧ Instr.findNow (.int kd0) (.int kd n) l i0 = some (some (i0 + i, e.val))
  | p0 :: es, e :: l, i0, 0, p, hl, hk, hp, hpk, _ => by
    simp at hp; subst hp
    have hke := hk 0 p0 e rfl rfl
    rw [hpk] at hke
    generalize hek : e.key = u at hke
    cases hke
    exact ⟨e, rfl, hek, by simp [Instr.findNow, Instr.sameNow, hek]⟩
  | p0 :: es, e :: l, i0, i + 1, p, hl, hk, hp, hpk, hj => by
    obtain ⟨a, h1, h2⟩ := hj 0 p0 (by omega) rfl
    have hke := hk 0 p0 e rfl rfl
    rw [h1] at hke
    generalize hek : e.key = u at hke
    cases hke
    obtain ⟨e', h3, h4, h5⟩ := findNow_at (kd0 := kd0) es l (i0 + 1) i p (by simpa using hl) (fun i p e h1 h2 => hk (i + 1) p e (by simpa using h1) (by simpa using h2)) (by simpa using hp) hpk (fun j q hlt hq => hj (j + 1) q (by omega) (by simpa using hq))
    have hne : (n == a) = false := by simpa using h2.symm
    exact ⟨e', by simpa using h3, h4, by simp [Instr.findNow, Instr.sameNow, hek, hne, h5]; omega⟩
  | [], _, _, _, _, _, _, hp, _, _ => by simp at hp
  | _ :: _, [], _, _, _, hl, _, _, _, _ => by simp at hl
end

section ops
variable {P : Program} {tab : Tab} {nG : Nat} {G0 : Nat → Option Obj} {n0 : Nat} {o : Oper} {rd : List Nat} {tm0 : Nat → AV} {hp0 : Nat → Option Blk}

/-- How a map of the abstract side lies in the world. -/
theorem map_ents {S : Stb} {w : World} {nil : Bool} {es : List (AV × AV)} {u : Value} (h : PR S w (.mp nil es) u) :
    ∃ ents : Array MapEntry, ents.size = es.length ∧ ((u = .map none ∧ ents = #[]) ∨ ∃ b clock, u = .map (some b) ∧ w.heap[b]? = some (.map ents clock)) ∧
      (∀ (i : Nat) (p : AV × AV) (e : MapEntry), es[i]? = some p → ents.toList[i]? = some e → PR S w p.1 e.key) ∧ (∀ (i : Nat) (p : AV × AV) (e : MapEntry), es[i]? = some p → ents.toList[i]? = some e → PR S w p.2 e.val) := by
  cases h with
  | mpNil => exact ⟨#[], rfl, .inl ⟨rfl, rfl⟩, fun i p e hp => by simp at hp, fun i p e hp => by simp at hp⟩
  | mp b es ents clock hb hh ho hk hv => exact ⟨ents, ho.size, .inr ⟨b, clock, rfl, hh⟩, fun i p e hp he => hk i p e hp (by simpa using he), fun i p e hp he => hv i p e hp (by simpa using he)⟩

theorem VRc_zero (K : KM) (S : Stb) (w : World) (c : CK) : VRc K S w (zeroA c) (zeroC c) := by
  cases c <;> simp only [zeroA, zeroC, VRc, VR0]
  · constructor
  · constructor
  · exact PR.str []
  · constructor
  · constructor
  · constructor
  · constructor

theorem snd_lookup {t kt et : TypeId} {ti ki ei : TI} {x i : Operand} {ok b : Bool} {es : List (AV × AV)} {kd : IntKind} {n : Int} {v : AV} {c : CK} (ht : TIok P t ti) (hk : ti.kind = .map kt et) (hkt : TIok P kt ki) (hkk : ki.kind = .scalar (.int kd))
    (het : TIok P et ei) (hea : ei.kind.isAgg = false) (hec : ei.cells = [c]) (ho : o.op = .lookup t x i ok)
    (hx : (∃ nil, evA tm0 x = .mp nil es) ∨ ∃ id, evA tm0 x = .rmp id ∧ hp0 id = some (.mp es) ∧ id ∈ rd) (hi : evA tm0 i = .int kd n) (hl : mlookD kd n (zeroA c) es = some (v, b)) :
    OpSnd P nG G0 n0 o (bif ok then .tup [v, .bool b] else v) [] rd tm0 hp0 := by
  refine OpSnd.look fun n1 K S tm hp a w hr hxx hh => ?_
  have hX := hxx x (by rw [ho]; simp [Op.operands])
  have hI := VR_int (hi ▸ hxx i (by rw [ho]; simp [Op.operands]))
  have hkm := ht.kind
  rw [hk] at hkm
  have hkd := hkt.kind
  rw [hkk] at hkd
  obtain ⟨d, hd, hs⟩ := hkd
  cases d <;> simp [scalarDesc] at hs
  rename_i kd0
  subst hs
  obtain ⟨ents, hsz, hu, hkey, hval⟩ : ∃ ents : Array MapEntry, ents.size = es.length ∧ ((a.eval x = .map none ∧ ents = #[]) ∨ ∃ b clock, a.eval x = .map (some b) ∧ w.heap[b]? = some (.map ents clock)) ∧
      (∀ (i : Nat) (p : AV × AV) (e : MapEntry), es[i]? = some p → ents.toList[i]? = some e → PR S w p.1 e.key) ∧ (∀ (i : Nat) (p : AV × AV) (e : MapEntry), es[i]? = some p → ents.toList[i]? = some e → PR S w p.2 e.val) := by
    rcases hx with ⟨nil, hx⟩ | ⟨id, hx, hb, hid⟩
    · rw [hx] at hX; exact map_ents (VR_mp hX)
    · rw [hx] at hX
      obtain ⟨b, hK, hu⟩ := VR_rmp hX
      obtain ⟨ents, clock, h1, h2, h3, h4⟩ := hr.heap.blk id (.mp es) (.mp b) ((hh id hid).trans hb) hK
      exact ⟨ents, h2.size, .inr ⟨b, clock, hu, h1⟩, fun i p e hp he => h3 i p e hp (by simpa using he), fun i p e hp he => h4 i p e hp (by simpa using he)⟩
  -- the look-up itself
  obtain ⟨u, hrun, hv⟩ : ∃ u : Value, ((Instr.findKey kt (.int kd n) ents.toList).run P w = .ok none w ∧ b = false ∧ u = ei.zeroV ∨ ∃ j, (Instr.findKey kt (.int kd n) ents.toList).run P w = .ok (some (j, u)) w ∧ b = true) ∧ VRc K S w v u := by
    unfold mlookD at hl
    split at hl
    · cases hl
    · rename_i hm
      cases hl
      have := findNow_look (kd0 := kd) es ents.toList 0 none (by simpa using hsz) hkey hm
      refine ⟨ei.zeroV, .inl ⟨run_findKey hd this, rfl, rfl⟩, ?_⟩
      unfold TI.zeroV
      rw [hea, hec]
      exact VRc_zero _ _ _ _
    · rename_i v' hm
      cases hl
      obtain ⟨j, p, e, h1, h2, h3, h4, h5⟩ := findNow_look (kd0 := kd) es ents.toList 0 (some _) (by simpa using hsz) hkey hm
      exact ⟨e.val, .inr ⟨_, run_findKey hd h5, rfl⟩, h3 ▸ (hval j p e h1 h2).vrc⟩
  refine ⟨if ok then .tuple #[u, .bool b] else u, ?_, ?_⟩
  · rw [execOp_eq ho]; unfold execOp
    have hck : ∀ em, (Instr.checkKey em 10000 kt (.int kd n)).run P w = .ok () w := fun em => run_checkKey hd (k := .int kd n) rfl em 9999
    rcases hu with ⟨hu, rfl⟩ | ⟨b', clock, hu, hb'⟩
    · rcases hrun with ⟨h1, rfl, rfl⟩ | ⟨j, h1, rfl⟩
      · simp [hu, hI, Instr.lookup, run_under hkm, hck, h1, het.run_zero]
      · simp [hu, hI, Instr.lookup, run_under hkm, hck, h1]
    · rcases hrun with ⟨h1, rfl, rfl⟩ | ⟨j, h1, rfl⟩
      · simp [hu, hI, Instr.lookup, run_under hkm, run_getObj_map hb', hck, h1, het.run_zero]
      · simp [hu, hI, Instr.lookup, run_under hkm, run_getObj_map hb', hck, h1]
  · cases ok with
    | false => simpa using (show VR K S w v u from by
        cases v <;> simp only [VRc, VR0] at hv <;> simp only [VR, VRa, VRc, VR0] <;> exact hv)
    | true =>
      simp only [cond_true, if_true, VR]
      refine ⟨_, rfl, rfl, fun j y z hy hz => ?_⟩
      match j with
      | 0 =>
        simp at hy hz; subst hy; subst hz
        cases v <;> simp only [VRc, VR0] at hv <;> simp only [VRa, VRc, VR0] <;> exact hv
      | 1 => simp at hy hz; subst hy; subst hz; exact PR.bool _
      | j + 2 => simp at hy

theorem snd_makeMap {t : TypeId} {id : Nat} (ho : o.op = .makeMap t none) (hrd : id ∉ rd) : OpSnd P nG G0 n0 o (.rmp id) [(id, .mp [])] rd tm0 hp0 := by
  refine OpSnd.new hrd fun n K S tm hp a w hr hx _ => ⟨.map (some w.heap.size), .map #[] 0, .mp w.heap.size, 0, ?_, rfl, .inl rfl, fun hK hS => ⟨?_, ?_⟩⟩
  · rw [execOp_eq ho]; unfold execOp; simp [Instr.makeMap]
  · exact ⟨#[], 0, heap_alloc_eq _ _, ⟨rfl, fun i e h => by simp at h, fun i j e e' h => by simp at h⟩, fun i p e h => by simp at h, fun i p e h => by simp at h⟩
  · simp [VR, VRa, VRc, VR0, updK]

theorem snd_mapUpdate {t kt et : TypeId} {ti ki : TI} {m i x : Operand} {id : Nat} {es es' : List (AV × AV)} {kd : IntKind} {n : Int} (ht : TIok P t ti) (hk : ti.kind = .map kt et) (hkt : TIok P kt ki) (hkk : ki.kind = .scalar (.int kd))
    (ho : o.op = .mapUpdate t m i x ∨ o.op = .insert t m i x) (hm : evA tm0 m = .rmp id) (hb : hp0 id = some (.mp es)) (hid : id ∈ rd) (hi : evA tm0 i = .int kd n) (hp : (evA tm0 x).pureC = true) (hl : mupd kd n (evA tm0 x) es = some es') :
    OpSnd P nG G0 n0 o .dead [(id, .mp es')] rd tm0 hp0 := by
  refine OpSnd.set hid fun n1 K S tm hp2 a w hr hxx hh => ?_
  have hops : m ∈ o.op.operands ∧ i ∈ o.op.operands ∧ x ∈ o.op.operands := by rcases ho with ho | ho <;> rw [ho] <;> simp [Op.operands]
  have hM := hxx m hops.1
  rw [hm] at hM
  have hI := VR_int (hi ▸ hxx i hops.2.1)
  have hX := hxx x hops.2.2
  have hXP : PR S w (evA tm0 x) (a.eval x) := by
    revert hp hX
    generalize evA tm0 x = y
    intro hp hX
    cases y <;> simp [AV.pureC] at hp <;> try (simpa only [VR, VRa, VRc, VR0] using hX)
    rename_i sz nil tok xs
    cases tok with
    | none => simpa only [VR, VRa, VRc, VR0] using hX
    | some => simp at hp
  have hkm := ht.kind
  rw [hk] at hkm
  have hkd := hkt.kind
  rw [hkk] at hkd
  obtain ⟨d, hd, hs⟩ := hkd
  cases d <;> simp [scalarDesc] at hs
  rename_i kd0
  subst hs
  obtain ⟨b, hK, hu⟩ := VR_rmp hM
  obtain ⟨ents, clock, hheap, hok, hkey, hval⟩ := hr.heap.blk id (.mp es) (.mp b) ((hh id hid).trans hb) hK
  have hkey' : ∀ (i : Nat) (p : AV × AV) (e : MapEntry), es[i]? = some p → ents.toList[i]? = some e → PR S w p.1 e.key := fun i p e h1 h2 => hkey i p e h1 (by simpa using h2)
  have hck : ∀ em, (Instr.checkKey em 10000 kt (.int kd n)).run P w = .ok () w := fun em => run_checkKey hd (k := .int kd n) rfl em 9999
  have hlt : b < w.heap.size := (Array.getElem?_eq_some_iff.1 hheap).1
  have hexec : (execOp a.eval o).run P w = ((Instr.mapUpdate t (a.eval m) (a.eval i) (a.eval x)).run P w).andThen fun _ w' => .ok .skip w' := by
    rcases ho with ho | ho <;> · rw [execOp_eq ho]; unfold execOp; simp
  have hout : ∀ ob : Obj, ∀ b', b' ≠ b → (putB w b ob).heap[b']? = w.heap[b']? := fun ob b' hb' => putB_heap_ne _ _ _ _ hb'
  rcases mupd_spec es es' hl with ⟨h1, h2⟩ | ⟨j, p, h1, h2, h3, h4, h5⟩
  · have hf := findNow_look (kd0 := kd) es ents.toList 0 none (by simpa using hok.size) hkey' h1
    refine ⟨undef, putB w b (.map (ents.push { key := .int kd n, val := a.eval x, born := clock }) (clock + 1)), .mp b, b, .inr ⟨?_, rfl⟩, hK, rfl, fun _ _ _ => by simp, rfl, rfl, rfl, putB_size _ _ _, hout _, fun hkept => ⟨?_, VR_dead _ _ _ _⟩⟩
    · rw [hexec, hu, hI]
      simp only [Instr.mapUpdate, Sem.run_bind, run_under hkm, Result.andThen_ok, run_getObj_map hheap, hck, run_findKey hd hf, run_setObj_map _ hheap]
      rfl
    · subst h2
      refine ⟨_, _, putB_heap _ _ _ hlt, ⟨by simp [hok.size], fun i e he => ?_, fun i i' e e' he he' hbb => ?_⟩, fun i p e hp he => ?_, fun i p e hp he => ?_⟩
      · rw [Array.getElem?_push] at he
        split at he
        · cases he; exact Nat.lt_succ_self _
        · exact Nat.lt_succ_of_lt (hok.born i e he)
      · rw [Array.getElem?_push] at he he'
        split at he <;> split at he'
        · omega
        · cases he; have := hok.born i' e' he'; simp at hbb; omega
        · cases he'; have := hok.born i e he; simp at hbb; omega
        · exact hok.inj i i' e e' he he' hbb
      · rw [Array.getElem?_push] at he
        split at he
        · rename_i hi'
          cases he
          rw [List.getElem?_append_right (by rw [← hok.size]; omega), hi', hok.size] at hp
          simp at hp; subst hp
          exact PR.int _ _
        · rename_i hi'
          have : i < es.length := by rw [← hok.size]; exact (Array.getElem?_eq_some_iff.1 he).1
          rw [List.getElem?_append_left this] at hp
          exact (hkey i p e hp he).mono hkept
      · rw [Array.getElem?_push] at he
        split at he
        · rename_i hi'
          cases he
          rw [List.getElem?_append_right (by rw [← hok.size]; omega), hi', hok.size] at hp
          simp at hp; subst hp
          exact hXP.mono hkept
        · rename_i hi'
          have : i < es.length := by rw [← hok.size]; exact (Array.getElem?_eq_some_iff.1 he).1
          rw [List.getElem?_append_left this] at hp
          exact (hval i p e hp he).mono hkept
  · obtain ⟨e, g1, g2, g3⟩ := findNow_at (kd0 := kd) es ents.toList 0 j p (by simpa using hok.size) hkey' h2 h3 h5
    have g1' : ents[j]? = some e := by simpa using g1
    refine ⟨undef, putB w b (.map (ents.modify j fun e => { e with key := .int kd n, val := a.eval x }) clock), .mp b, b, .inr ⟨?_, rfl⟩, hK, rfl, fun _ _ _ => by simp, rfl, rfl, rfl, putB_size _ _ _, hout _, fun hkept => ⟨?_, VR_dead _ _ _ _⟩⟩
    · rw [hexec, hu, hI]
      have hstay : (Instr.keyThatStays (.int kd n) (.int kd n)).run P w = .ok (.int kd n) w := run_keyThatStays (d := .int kd) rfl
      simp only [Instr.mapUpdate, Sem.run_bind, run_under hkm, Result.andThen_ok, run_getObj_map hheap, hck, run_findKey hd g3, Nat.zero_add, g1', Option.map_some, Option.getD_some, g2, hstay, run_setObj_map _ hheap]
      rfl
    · subst h4
      have hmod : ∀ (i : Nat) (e' : MapEntry), (ents.modify j fun e => { e with key := .int kd n, val := a.eval x })[i]? = some e' → ∃ e0, ents[i]? = some e0 ∧ e'.born = e0.born ∧ (i = j → e'.key = .int kd n ∧ e'.val = a.eval x) ∧ (i ≠ j → e' = e0) := by
        intro i e' he'
        rw [Array.getElem?_modify] at he'
        split at he'
        · rename_i hij
          subst hij
          simp only [Option.map_eq_some_iff] at he'
          obtain ⟨e0, h1, rfl⟩ := he'
          exact ⟨e0, h1, rfl, fun _ => ⟨rfl, rfl⟩, fun h => absurd rfl h⟩
        · rename_i hij
          exact ⟨e', he', rfl, fun h => absurd h.symm hij, fun _ => rfl⟩
      refine ⟨_, _, putB_heap _ _ _ hlt, ⟨by simp [hok.size], fun i e he => ?_, fun i i' e e' he he' hbb => ?_⟩, fun i q e' hq he => ?_, fun i q e' hq he => ?_⟩
      · obtain ⟨e0, k1, k2, _⟩ := hmod i e he
        rw [k2]; exact hok.born i e0 k1
      · obtain ⟨e0, k1, k2, _⟩ := hmod i e he
        obtain ⟨e1, k3, k4, _⟩ := hmod i' e' he'
        exact hok.inj i i' e0 e1 k1 k3 (by rw [← k2, ← k4]; exact hbb)
      · obtain ⟨e0, k1, k2, k3, k4⟩ := hmod i e' he
        rw [List.getElem?_set] at hq
        split at hq
        · rename_i hij
          split at hq
          · cases hq; rw [(k3 hij.symm).1]; exact PR.int _ _
          · cases hq
        · rename_i hij
          rw [k4 (fun h => hij h.symm)]
          exact (hkey i q e0 hq k1).mono hkept
      · obtain ⟨e0, k1, k2, k3, k4⟩ := hmod i e' he
        rw [List.getElem?_set] at hq
        split at hq
        · rename_i hij
          split at hq
          · cases hq; rw [(k3 hij.symm).2]; exact hXP.mono hkept
          · cases hq
        · rename_i hij
          rw [k4 (fun h => hij h.symm)]
          exact (hval i q e0 hq k1).mono hkept

theorem snd_range {t kt et : TypeId} {ti : TI} {x : Operand} {nil : Bool} {es : List (AV × AV)} {id : Nat} (ht : TIok P t ti) (hk : ti.kind = .map kt et) (ho : o.op = .range t x) (hx : evA tm0 x = .mp nil es) (hrd : id ∉ rd) :
    OpSnd P nG G0 n0 o (.iter id) [(id, .iter es none)] rd tm0 hp0 := by
  have hkm := ht.kind
  rw [hk] at hkm
  refine OpSnd.new hrd fun n K S tm hp a w hr hxx _ => ?_
  have hX := VR_mp (hx ▸ hxx x (by rw [ho]; simp [Op.operands]))
  generalize hu : a.eval x = u at hX
  cases hX with
  | mpNil =>
    refine ⟨.pointer (some (ad w.heap.size 0)), .mapIter none 0 #[] 0, .iter w.heap.size, 0, ?_, rfl, .inl rfl, fun hK hS => ⟨⟨none, 0, #[], 0, heap_alloc_eq _ _, rfl, rfl⟩, by simp [VR, VRa, VRc, VR0, updK]⟩⟩
    rw [execOp_eq ho]; unfold execOp; simp [hu, Instr.range, run_under hkm, ad]
  | mp b es ents clock hb hh ho' hk' hv' =>
    refine ⟨.pointer (some (ad w.heap.size 0)), .mapIter (some b) clock #[] clock, .iter w.heap.size, 0, ?_, rfl, .inl rfl, fun hK hS => ⟨⟨some b, clock, #[], clock, heap_alloc_eq _ _, ?_⟩, by simp [VR, VRa, VRc, VR0, updK]⟩⟩
    · rw [execOp_eq ho]; unfold execOp; simp [hu, Instr.range, run_under hkm, run_getObj_map hh, ad]
    · have hfil : (ents.toList.filter fun e => !(#[] : Array Nat).contains e.born) = ents.toList := by simp
      refine ⟨ents, clock, fun off => .inl (hb off), ?_, rfl, rfl, ho'.born, ho'.inj, by rw [hfil]; simpa using ho'.size, fun i p e hp he => ?_, fun i p e hp he => ?_, fun p hp => by cases hp⟩
      · have hlt : b < w.heap.size := (Array.getElem?_eq_some_iff.1 hh).1
        rw [heap_alloc_lt w _ b hlt]; exact hh
      · rw [hfil] at he; exact (hk' i p e hp (by simpa using he)).mono hS
      · rw [hfil] at he; exact (hv' i p e hp (by simpa using he)).mono hS

theorem snd_entry {x : Operand} {id : Nat} {es : List (AV × AV)} {p : AV × AV} (ho : o.op = .entry x) (hx : evA tm0 x = .iter id) (hb : hp0 id = some (.iter es (some p))) (hid : id ∈ rd) :
    OpSnd P nG G0 n0 o (.tup [p.1, p.2]) [] rd tm0 hp0 := by
  refine OpSnd.look fun n K S tm hp a w hr hxx hh => ?_
  obtain ⟨b, hK, hu⟩ := VR_iter (hx ▸ hxx x (by rw [ho]; simp [Op.operands]))
  obtain ⟨m, since, seen, stepped, hheap, hit⟩ := hr.heap.blk id _ (.iter b) ((hh id hid).trans hb) hK
  cases m with
  | none => obtain ⟨_, h⟩ := hit; cases h
  | some mb =>
    obtain ⟨ents, clock, h1, h2, rfl, rfl, h5, h6, h7, h8, h9, h10⟩ := hit
    obtain ⟨e, he, hback, hk, hv⟩ := h10 p rfl
    obtain ⟨i, hi⟩ := List.mem_iff_getElem?.1 he
    have hfind : ents.find? (fun x => x.born == e.born) = some e := by
      cases hf : ents.find? (fun x => x.born == e.born) with
      | none =>
        have := Array.find?_eq_none.1 hf e (by simpa using he)
        simp at this
      | some e' =>
        have hb' := Array.find?_some hf
        have hm' := Array.mem_of_find?_eq_some hf
        obtain ⟨i', hi'⟩ := Array.mem_iff_getElem?.1 hm'
        have := h6 i' i e' e hi' (by simpa using hi) (by simpa using hb')
        subst this
        have hi2 : ents[i']? = some e := by simpa using hi
        rw [hi2] at hi'
        exact hi'.symm ▸ rfl
    refine ⟨.tuple #[e.key, e.val], ?_, ?_⟩
    · rw [execOp_eq ho]; unfold execOp
      have hg : (getObj b).run P w = .ok (.mapIter (some mb) stepped seen stepped) w := by simp [getObj, Sem.run, hheap]
      simp [hu, ad, Instr.entry, hg, hback, run_getObj_map h2, hfind]
    · simp only [VR]
      refine ⟨_, rfl, rfl, fun j y z hy hz => ?_⟩
      match j with
      | 0 => simp at hy hz; subst hy; subst hz; exact (hk.vrc (K := K)).vra
      | 1 => simp at hy hz; subst hy; subst hz; exact (hv.vrc (K := K)).vra
      | j + 2 => simp at hy
end ops
end Go.Ab

namespace Go.Ab
open Go.MapKept (run_getObj_map)

theorem filter_born {e : MapEntry} : ∀ (l : List MapEntry) (i : Nat), l[i]? = some e → (l.map (·.born)).Nodup → l.filter (fun x => !(x.born == e.born)) = l.eraseIdx i
  | [], i, h, _ => by simp at h
  | x :: r, 0, h, hn => by
    simp at h; subst h
    simp only [List.map_cons, List.nodup_cons, List.mem_map, not_exists, not_and] at hn
    simp only [List.eraseIdx_cons_zero, List.filter_cons, beq_self_eq_true, Bool.not_true, Bool.false_eq_true, if_false]
    exact List.filter_eq_self.2 fun y hy => by have := hn.1 y hy; simp [this]
  | x :: r, i + 1, h, hn => by
    simp only [List.map_cons, List.nodup_cons, List.mem_map, not_exists, not_and] at hn
    have hm : e ∈ r := List.mem_of_getElem? (by simpa using h)
    have hne : ¬ x.born = e.born := fun hh => hn.1 e hm hh.symm
    simp [hne, filter_born r i (by simpa using h) hn.2]

section ops
variable {P : Program} {tab : Tab} {nG : Nat} {G0 : Nat → Option Obj} {n0 : Nat} {o : Oper}

/-- One step of a walk over a map: over, or any entry that is left. -/
theorem wp_next {x : Operand} {id : Nat} {es : List (AV × AV)} {cur : Option (AV × AV)} {n : Nat} {K : KM} {S : Stb} {tm : Nat → AV} {hp : Nat → Option Blk} {a : Act} {w : World} {next : Act → World → Prop} {QC : Exit → Act → World → Prop}
    (ho : o.op = .next x false) (hr : RelF nG G0 n K S tm hp a w) (hx : evA tm x = .iter id) (hb : hp id = some (.iter es cur))
    (hover : es = [] → ∀ u, VR K S w (.tup [.bool false]) u → next (a.put o.dst u) w)
    (hstep : ∀ (i : Nat) (p : AV × AV), es[i]? = some p → ∀ u w' K' S', VR K' S' w' (.tup [.bool true, p.1, p.2]) u → HRel nG G0 K' S' (updH hp [(id, .iter (es.eraseIdx i) (some p))]) w' → Ext n0 K S w K' S' w' → KLe K K' → next (a.put o.dst u) w') :
    o.wp P a w next QC := by
  obtain ⟨b, hK, hu⟩ := VR_iter (hx ▸ hr.ev x)
  obtain ⟨m, since, seen, stepped, hheap, hit⟩ := hr.heap.blk id _ (.iter b) hb hK
  have hg : ∀ w0 : World, w0.heap[b]? = some (.mapIter m since seen stepped) → (getObj b).run P w0 = .ok (.mapIter m since seen stepped) w0 := fun w0 h => by simp [getObj, Sem.run, h]
  have hovr : VR K S w (.tup [.bool false]) (.tuple #[.bool false]) := by
    simp only [VR]
    refine ⟨_, rfl, rfl, fun j y z hy hz => ?_⟩
    match j with
    | 0 => simp at hy hz; subst hy; subst hz; exact PR.bool _
    | j + 1 => simp at hy
  unfold Oper.wp
  cases m with
  | none =>
    obtain ⟨rfl, _⟩ := hit
    have hrun : (execOp a.eval o).run P w = .ok (.value (.tuple #[.bool false])) w := by
      rw [execOp_eq ho]; unfold execOp
      simp [hu, ad, Instr.next, hg w hheap]
    rw [hrun, Oper.upon_value]
    exact hover rfl _ hovr
  | some mb =>
    obtain ⟨ents, clock, h1, h2, rfl, rfl, h5, h6, h7, h8, h9, h10⟩ := hit
    have hnd : (ents.toList.map (·.born)).Nodup := by
      refine List.pairwise_iff_getElem.2 fun i j hi hj hij hh => ?_
      simp only [List.length_map, Array.length_toList] at hi hj
      simp only [List.getElem_map, Array.getElem_toList] at hh
      have := h6 i j _ _ (Array.getElem?_eq_getElem hi) (Array.getElem?_eq_getElem hj) hh
      omega
    have hborn : ∀ e ∈ ents, e.born < stepped := fun e he => by obtain ⟨i, hi⟩ := Array.mem_iff_getElem?.1 he; exact h5 i e hi
    have hguard : (!seen.isEmpty && !ents.isEmpty && ents.all fun e => decide (e.born ≥ stepped)) = false := by
      cases hE : ents.isEmpty with
      | true => simp
      | false =>
        have hpos : 0 < ents.size := by
          rcases Nat.eq_zero_or_pos ents.size with h0 | h0
          · rw [Array.isEmpty_iff_size_eq_zero.2 h0] at hE; cases hE
          · exact h0
        have hlt := h5 0 ents[0] (Array.getElem?_eq_getElem hpos)
        have : (ents.all fun e => decide (e.born ≥ stepped)) = false := by
          rw [Array.all_eq_false']
          exact ⟨ents[0], Array.getElem_mem hpos, by simp; omega⟩
        simp [this]
    generalize hleft : (ents.filter fun e => !seen.contains e.born) = left
    have hleftL : ents.toList.filter (fun e => !seen.contains e.born) = left.toList := by rw [← hleft]; simp
    rw [hleftL] at h7 h8 h9
    have hold : left.filter (fun e => decide (e.born < stepped)) = left := by
      rw [← hleft, Array.filter_eq_self]
      intro e he
      have := hborn e (Array.mem_filter.1 he).1
      simpa using this
    have hnew : left.filter (fun e => decide (e.born ≥ stepped)) = #[] := by
      rw [← hleft, Array.filter_eq_empty_iff]
      intro e he
      have := hborn e (Array.mem_filter.1 he).1
      simp; omega
    have hlnd : (left.toList.map (·.born)).Nodup := by
      rw [← hleftL]
      exact (List.filter_sublist.map _).nodup hnd
    have hblt : b < w.heap.size := (Array.getElem?_eq_some_iff.1 hheap).1
    have hmne : mb ≠ b := by
      rintro rfl
      rw [h2] at hheap; cases hheap
    rcases Nat.eq_zero_or_pos es.length with h0 | h0
    · have hes : es = [] := List.eq_nil_of_length_eq_zero h0
      have hl0 : left = #[] := by
        apply Array.eq_empty_of_size_eq_zero
        have : left.toList.length = 0 := by rw [h7, h0]
        simpa using this
      have hrun : (execOp a.eval o).run P w = .ok (.value (.tuple #[.bool false])) w := by
        rw [execOp_eq ho]; unfold execOp
        simp only [hu, ad, Instr.next, Sem.run_bind, hg w hheap, Result.andThen_ok, run_getObj_map h2, hguard, Bool.false_eq_true, if_false, hleft, hold, hnew]
        simp [hl0, Question.forced]
      rw [hrun, Oper.upon_value]
      exact hover hes _ hovr
    · have hlsz : left.size = es.length := by simpa using h7
      have hlne : left.isEmpty = false := by
        cases hE : left.isEmpty with
        | false => rfl
        | true => rw [Array.isEmpty_iff_size_eq_zero] at hE; omega
      -- the choice
      obtain ⟨i, w1, hi, hch, hw1⟩ : ∃ (i : Nat) (w1 : World), i < left.size ∧ (choose (.mapNext left.size)).run P w = .ok i w1 ∧ (w1 = w ∨ w1 = w.drew) := by
        rw [run_choose_drew]
        by_cases hf : left.size ≤ 1
        · refine ⟨0, w, by omega, ?_, .inl rfl⟩
          simp [Question.forced, hf]
        · refine ⟨(w.tape w.drawn (.mapNext left.size)) % left.size, w.drew, Nat.mod_lt _ (by omega), ?_, .inr rfl⟩
          simp [Question.forced, hf, Question.cut]
      have hw1h : w1.heap = w.heap ∧ w1.os = w.os ∧ w1.tape = w.tape ∧ w1.output = w.output := by rcases hw1 with rfl | rfl <;> exact ⟨rfl, rfl, rfl, rfl⟩
      obtain ⟨e, he⟩ : ∃ e, left[i]? = some e := ⟨_, Array.getElem?_eq_getElem hi⟩
      obtain ⟨p, hp⟩ : ∃ p, es[i]? = some p := ⟨_, List.getElem?_eq_getElem (by omega)⟩
      have heL : left.toList[i]? = some e := by simpa using he
      have hrun : (execOp a.eval o).run P w = .ok (.value (.tuple #[.bool true, e.key, e.val])) (putB w1 b (.mapIter (some mb) stepped (seen.push e.born) stepped)) := by
        rw [execOp_eq ho]; unfold execOp
        have hcand : ((if left.isEmpty = true then #[none] else #[]) ++ (left ++ #[]).map some : Array (Option MapEntry)) = left.map some := by simp [hlne]
        simp only [hu, ad, Instr.next, Sem.run_bind, hg w hheap, Result.andThen_ok, run_getObj_map h2, hguard, Bool.false_eq_true, if_false, hleft, hold, hnew, hcand, Array.size_map, hch, Array.getElem?_map, he, Option.map_some]
        have hset : (setObj b (.mapIter (some mb) stepped (seen.push e.born) stepped)).run P w1 = .ok () (putB w1 b (.mapIter (some mb) stepped (seen.push e.born) stepped)) := by
          simp [setObj, Sem.run, putB, hw1h.1, hheap]
        simp only [hset, Result.andThen_ok, Sem.run_pure]
      rw [hrun, Oper.upon_value]
      let w' := putB w1 b (.mapIter (some mb) stepped (seen.push e.born) stepped)
      have hw'n : ∀ b', b' ≠ b → w'.heap[b']? = w.heap[b']? := fun b' hb' => by
        rw [show w'.heap[b']? = w1.heap[b']? from putB_heap_ne _ _ _ _ hb', hw1h.1]
      have hw'b : w'.heap[b]? = some (.mapIter (some mb) stepped (seen.push e.born) stepped) := putB_heap w1 b _ (by rw [hw1h.1]; exact hblt)
      have hSb : ∀ b' off, S b' off → b' ≠ b := by
        rintro b' off hs rfl
        obtain ⟨l, sz, n', hki, _⟩ := hr.heap.apart b' off id _ hs hK rfl
        cases hki
      have hkept : Kept S w S w' := ⟨fun _ _ h => h, fun b' off hs => cell_of_heap (hw'n b' (hSb b' off hs)), fun b' hs => hw'n b' (hSb b' 0 (hs 0))⟩
      have hpk := (h8 i p e hp heL).mono hkept
      have hpv := (h9 i p e hp heL).mono hkept
      have hmem : e ∈ ents.toList := by
        have : e ∈ left.toList := List.mem_of_getElem? heL
        rw [← hleftL] at this
        exact (List.mem_filter.1 this).1
      have hnl : ents.toList.filter (fun x => !(seen.push e.born).contains x.born) = left.toList.eraseIdx i := by
        rw [← filter_born left.toList i heL hlnd, ← hleftL, List.filter_filter]
        congr 1
        funext x
        rw [Array.contains_push]
        cases seen.contains x.born <;> simp
      have k8 : ∀ (j : Nat) (q : AV × AV) (e' : MapEntry), (es.eraseIdx i)[j]? = some q → (ents.toList.filter (fun x => !(seen.push e.born).contains x.born))[j]? = some e' → PR S w' q.1 e'.key := by
        intro j q e' hq he'
        rw [hnl, List.getElem?_eraseIdx] at he'
        rw [List.getElem?_eraseIdx] at hq
        split at hq
        · rename_i hji; rw [if_pos hji] at he'; exact (h8 j q e' hq he').mono hkept
        · rename_i hji; rw [if_neg hji] at he'; exact (h8 (j + 1) q e' hq he').mono hkept
      have k9 : ∀ (j : Nat) (q : AV × AV) (e' : MapEntry), (es.eraseIdx i)[j]? = some q → (ents.toList.filter (fun x => !(seen.push e.born).contains x.born))[j]? = some e' → PR S w' q.2 e'.val := by
        intro j q e' hq he'
        rw [hnl, List.getElem?_eraseIdx] at he'
        rw [List.getElem?_eraseIdx] at hq
        split at hq
        · rename_i hji; rw [if_pos hji] at he'; exact (h9 j q e' hq he').mono hkept
        · rename_i hji; rw [if_neg hji] at he'; exact (h9 (j + 1) q e' hq he').mono hkept
      have k10 : ∀ q, some p = some q → ∃ e' ∈ ents.toList, (seen.push e.born).back? = some e'.born ∧ PR S w' q.1 e'.key ∧ PR S w' q.2 e'.val := by
        intro q hq
        cases hq
        exact ⟨e, hmem, by simp, hpk, hpv⟩
      obtain ⟨g1, g2, g3⟩ := hr.heap.gen (n0 := n0) (w' := w') (id := id) (ki' := .iter b) (bl := .iter (es.eraseIdx i) (some p)) (S' := S) hw1h.2.1 hw1h.2.2.1 hw1h.2.2.2 (by show _ ≤ (putB w1 b _).heap.size; rw [putB_size, hw1h.1]; exact Nat.le_refl _)
        (fun b' hb' hne => hw'n b' fun hbb => hne _ hK (by rw [hbb]; rfl)) (fun b' hb' => .inl ⟨_, hK, hb'⟩) (fun b' off hs => cell_of_heap (hw'n b' (hSb b' off hs))) (fun _ _ h => h) (fun _ _ h => .inl h)
        (fun ki hki => by rw [hK] at hki; cases hki; exact rfl) (fun h => by rw [hK] at h; cases h)
        ⟨some mb, stepped, seen.push e.born, stepped, hw'b, ents, stepped, h1, (hw'n mb hmne).trans h2, rfl, rfl, h5, h6, by rw [hnl, List.length_eraseIdx, List.length_eraseIdx, h7], k8, k9, k10⟩
      refine hstep i p hp _ _ _ _ ?_ g1 g2 g3
      simp only [VR]
      refine ⟨_, rfl, rfl, fun j y z hy hz => ?_⟩
      match j with
      | 0 => simp at hy hz; subst hy; subst hz; exact PR.bool _
      | 1 => simp at hy hz; subst hy; subst hz; exact (hpk.vrc (K := _)).vra
      | 2 => simp at hy hz; subst hy; subst hz; exact (hpv.vrc (K := _)).vra
      | j + 3 => simp at hy
end ops
end Go.Ab

namespace Go.Ab
section ops
variable {P : Program} {tab : Tab} {nG : Nat} {G0 : Nat → Option Obj} {n0 : Nat} {o : Oper} {rd : List Nat} {tm0 : Nat → AV} {hp0 : Nat → Option Blk}

theorem snd_makeSlice {t e : TypeId} {ti ei : TI} {l c : Operand} {kl kc : IntKind} {n : Int} {id : Nat} (ht : TIok P t ti) (hk : ti.kind = .slice e) (he : TIok P e ei) (_hz : ei.size ≠ 0)
    (ho : o.op = .makeSlice t l c) (hl : evA tm0 l = .int kl n) (hc : evA tm0 c = .int kc n) (h0 : 0 ≤ n) (hb : (ei.bytes : Int) * n ≤ 281474976710656) (h63 : n ≤ 9223372036854775807)
    (hp : (ei.cells.map zeroA).all AV.pureC = true) (hrd : id ∉ rd) :
    OpSnd P nG G0 n0 o (.rsl ei.size id 0 n.toNat) [(id, .arr ei.size (List.replicate n.toNat (ei.cells.map zeroA)))] rd tm0 hp0 := by
  have hkk := ht.kind
  rw [hk] at hkk
  obtain ⟨i, hi, hsz, hby, hzv⟩ := he.info
  refine OpSnd.new hrd fun n1 K S tm hp2 a w hr hxx _ => ⟨.slice (some ⟨w.heap.size, 0, none⟩) n.toNat n.toNat, .cells (madeCells ei.zeroV.cells (n.toNat * i.size)) e, .arr w.heap.size ei.size n.toNat, 0, ?_, rfl, .inl rfl, fun hK hS => ⟨?_, ?_⟩⟩
  · have hL := VR_int (hl ▸ hxx l (by rw [ho]; simp [Op.operands]))
    have hC := VR_int (hc ▸ hxx c (by rw [ho]; simp [Op.operands]))
    rw [execOp_eq ho]; unfold execOp
    simp [hL, hC, run_make w t e i ei.zeroV hkk hi hzv kl kc n n h0 (Int.le_refl _) (by rw [hby]; exact hb) h63]
  · obtain ⟨⟨z1, z2⟩, z3⟩ := zero_cells (K := K) (S := S) (w := w) he
    have hlen : (ei.cells.map zeroA).length = ei.size := by simp [he.len]
    refine ⟨rfl, by simp, fun j x hx => ?_, _, e, heap_alloc_eq _ _, by simp [size_madeCells, hsz], fun j x q y u hx hy hu => ?_⟩
    · rw [List.getElem?_replicate] at hx
      split at hx
      · cases hx; exact hlen
      · cases hx
    · rw [List.getElem?_replicate] at hx
      split at hx
      · cases hx
        have hq : q < ei.size := by rw [← hlen]; exact (List.getElem?_eq_some_iff.1 hy).1
        have hmod : (j * ei.size + q) % ei.size = q := by rw [Nat.mul_comm, Nat.mul_add_mod]; exact Nat.mod_eq_of_lt hq
        have hq2 : q < ei.zeroV.cells.size := by rw [z3]; exact hq
        simp only [madeCells, Array.getElem?_map, Option.map_eq_some_iff] at hu
        obtain ⟨m, hm, rfl⟩ := hu
        have hm : m = j * ei.size + q := by
          have := Array.getElem?_eq_some_iff.1 hm
          obtain ⟨h1, h2⟩ := this
          simpa using h2.symm
        subst hm
        rw [z3, hmod]
        have hget : ei.zeroV.cells[q]? = some (ei.zeroV.cells[q]!) := by simp [hq2]
        exact ((z2 q y _ hy hget).pure (List.all_eq_true.1 hp y (List.mem_of_getElem? hy))).mono hS
      · cases hx
  · simp only [VR, VRa, VRc, VR0]
    exact ⟨w.heap.size, n.toNat, n.toNat, by simp [updK], by omega, Nat.le_refl _, by simp [ad]⟩
end ops
end Go.Ab

namespace Go.Ab

def ifK (b : Bool) (A B : Prop) : Prop := Bool.rec (motive := fun _ => Prop) B A b

theorem ifK_iff {b : Bool} {A B : Prop} : ifK b A B ↔ (b = true → A) ∧ (b = false → B) := by cases b <;> simp [ifK]

def forceK (v : AV) (k : AV → Prop) : Prop :=
  match v with
  | .bool b => k (.bool b)
  | .int kd n => k (.int kd n)
  | .str s => k (.str s)
  | .sl sz nil tok xs => k (.sl sz nil tok xs)
  | .rsl sz id off len => k (.rsl sz id off len)
  | .mp nil es => k (.mp nil es)
  | .rmp id => k (.rmp id)
  | .ref id off => k (.ref id off)
  | .eref sz id i off => k (.eref sz id i off)
  | .rptr cs => k (.rptr cs)
  | .func f cap => k (.func f cap)
  | .nilFunc => k .nilFunc
  | .iface => k .iface
  | .nilIface => k .nilIface
  | .nils => k .nils
  | .agg cs => k (.agg cs)
  | .tup vs => k (.tup vs)
  | .iter id => k (.iter id)
  | .dead => k .dead

theorem forceK_eq (v : AV) (k : AV → Prop) : forceK v k = k v := by cases v <;> rfl

def forceL : List AV → (List AV → Prop) → Prop
  | [], k => k []
  | v :: r, k => forceK v fun v' => forceL r fun r' => k (v' :: r')

theorem forceL_eq : ∀ (l : List AV) (k : List AV → Prop), forceL l k = k l
  | [], _ => rfl
  | v :: r, k => by simp only [forceL, forceK_eq, forceL_eq r]

def setK : List AV → Nat → AV → (List AV → Prop) → Prop
  | [], _, _, k => k []
  | _ :: r, 0, v, k => k (v :: r)
  | x :: r, i + 1, v, k => setK r i v fun r' => k (x :: r')

theorem setK_eq : ∀ (l : List AV) (i : Nat) (v : AV) (k : List AV → Prop), setK l i v k = k (l.set i v)
  | [], _, _, _ => rfl
  | _ :: _, 0, _, _ => rfl
  | x :: r, i + 1, v, k => by simp only [setK, setK_eq r i v]; rfl

def hput : List (Option Blk) → Nat → Blk → List (Option Blk)
  | [], 0, b => [some b]
  | [], i + 1, b => none :: hput [] i b
  | _ :: r, 0, b => some b :: r
  | x :: r, i + 1, b => x :: hput r i b

def hputK : List (Option Blk) → Nat → Blk → (List (Option Blk) → Prop) → Prop
  | [], 0, b, k => k [some b]
  | [], i + 1, b, k => hputK [] i b fun r => k (none :: r)
  | _ :: r, 0, b, k => k (some b :: r)
  | x :: r, i + 1, b, k => hputK r i b fun r' => k (x :: r')

theorem hputK_eq : ∀ (l : List (Option Blk)) (i : Nat) (b : Blk) (k : List (Option Blk) → Prop), hputK l i b k = k (hput l i b)
  | [], 0, _, _ => rfl
  | [], i + 1, b, k => by simp only [hputK, hput, hputK_eq [] i b]
  | _ :: _, 0, _, _ => rfl
  | x :: r, i + 1, b, k => by simp only [hputK, hput, hputK_eq r i b]

theorem hput_get : ∀ (l : List (Option Blk)) (i : Nat) (b : Blk) (j : Nat), hpF (hput l i b) j = if j = i then some b else hpF l j
  | [], 0, b, 0 => by simp [hput, hpF]
  | [], 0, b, j + 1 => by simp [hput, hpF]
  | [], i + 1, b, 0 => by simp [hput, hpF]
  | [], i + 1, b, j + 1 => by
    have := hput_get [] i b j
    simp only [hpF, hput, List.getD_cons_succ, Nat.add_right_cancel_iff] at this ⊢
    rw [this]; simp
  | x :: r, 0, b, 0 => by simp [hput, hpF]
  | x :: r, 0, b, j + 1 => by simp [hput, hpF]
  | x :: r, i + 1, b, 0 => by simp [hput, hpF]
  | x :: r, i + 1, b, j + 1 => by
    have := hput_get r i b j
    simp only [hpF, hput, List.getD_cons_succ, Nat.add_right_cancel_iff] at this ⊢
    rw [this]

theorem hput_len : ∀ (l : List (Option Blk)) (i : Nat) (b : Blk), l.length ≤ (hput l i b).length
  | [], _, _ => Nat.zero_le _
  | _ :: _, 0, _ => by simp [hput]
  | x :: r, i + 1, b => by have := hput_len r i b; simp [hput]; omega

def forceB (b : Blk) (k : Blk → Prop) : Prop :=
  match b with
  | .var cs => forceL cs fun cs' => k (.var cs')
  | .arr sz xs => k (.arr sz xs)
  | .grow sz n => k (.grow sz n)
  | .mp es => k (.mp es)
  | .iter es cur => k (.iter es cur)

theorem forceB_eq (b : Blk) (k : Blk → Prop) : forceB b k = k b := by cases b <;> simp only [forceB, forceL_eq]

def writeK : List (Nat × Blk) → List (Option Blk) → (List (Option Blk) → Prop) → Prop
  | [], hp, k => k hp
  | (i, b) :: r, hp, k => forceB b fun b' => hputK hp i b' fun hp' => writeK r hp' k

def write : List (Nat × Blk) → List (Option Blk) → List (Option Blk)
  | [], hp => hp
  | (i, b) :: r, hp => write r (hput hp i b)

theorem writeK_eq : ∀ (ws : List (Nat × Blk)) (hp : List (Option Blk)) (k : List (Option Blk) → Prop), writeK ws hp k = k (write ws hp)
  | [], _, _ => rfl
  | (i, b) :: r, hp, k => by simp only [writeK, forceB_eq, hputK_eq, writeK_eq r, write]

theorem write_get : ∀ (ws : List (Nat × Blk)) (hp : List (Option Blk)), hpF (write ws hp) = updH (hpF hp) ws
  | [], _ => rfl
  | (i, b) :: r, hp => by
    rw [write, write_get r, updH]
    congr 1
    funext j
    exact hput_get hp i b j

theorem write_len : ∀ (ws : List (Nat × Blk)) (hp : List (Option Blk)), hp.length ≤ (write ws hp).length
  | [], _ => Nat.le_refl _
  | (i, b) :: r, hp => Nat.le_trans (hput_len hp i b) (write_len r _)

def withCell : CK → (AV → Prop) → Prop
  | .bool, k => ∃ b, k (.bool b)
  | .int kd, k => ∃ n, k (.int kd n)
  | .str, k => ∃ s, k (.str s)
  | .sl sz, k => ∃ nil xs, k (.sl sz nil none xs)
  | .mp, k => ∃ nil es, k (.mp nil es)
  | .func, _ => False
  | .iface, k => ∃ b : Bool, ifK b (k .iface) (k .nilIface)
  | .ptr, k => k .dead

theorem withCell_ex {c : CK} {k : AV → Prop} (h : withCell c k) : ∃ v, k v := by
  cases c <;> simp only [withCell] at h
  · obtain ⟨b, h⟩ := h; exact ⟨_, h⟩
  · obtain ⟨b, h⟩ := h; exact ⟨_, h⟩
  · obtain ⟨b, h⟩ := h; exact ⟨_, h⟩
  · obtain ⟨b, c, h⟩ := h; exact ⟨_, h⟩
  · obtain ⟨b, c, h⟩ := h; exact ⟨_, h⟩
  · obtain ⟨b, h⟩ := h
    cases b
    · exact ⟨_, h⟩
    · exact ⟨_, h⟩
  · exact ⟨_, h⟩

def withCells : List CK → (List AV → Prop) → Prop
  | [], k => k []
  | c :: r, k => withCell c fun v => withCells r fun vs => k (v :: vs)

theorem withCells_ex : ∀ {cs : List CK} {k : List AV → Prop}, withCells cs k → ∃ vs, k vs
  | [], _, h => ⟨[], h⟩
  | _ :: _, _, h => by
    obtain ⟨v, h⟩ := withCell_ex h
    obtain ⟨vs, h⟩ := withCells_ex h
    exact ⟨_, h⟩

def loadK (ti : TI) (cs : List AV) (k : AV → Prop) : Prop :=
  if ti.kind.isAgg then forceL cs fun cs' => k (.agg cs') else forceK (cs.headD .dead) k

theorem loadK_eq (ti : TI) (cs : List AV) (k : AV → Prop) : loadK ti cs k = k (loaded ti cs) := by
  simp only [loadK, loaded, forceK_eq, forceL_eq]; split <;> rfl

def withRes (tab : Tab) (t : Nat) (k : AV → Prop) : Prop :=
  match tab t with
  | none => False
  | some ti => withCells ti.cells fun cs => loadK ti cs k

theorem withRes_ex {tab : Tab} {t : Nat} {k : AV → Prop} (h : withRes tab t k) : ∃ v, k v := by
  unfold withRes at h
  split at h
  · exact h.elim
  · obtain ⟨cs, h⟩ := withCells_ex h
    rw [loadK_eq] at h
    exact ⟨_, h⟩

def withResL (tab : Tab) : List Nat → (List AV → Prop) → Prop
  | [], k => k []
  | t :: r, k => withRes tab t fun v => withResL tab r fun vs => k (v :: vs)

theorem withResL_ex {tab : Tab} : ∀ {ts : List Nat} {k : List AV → Prop}, withResL tab ts k → ∃ vs, k vs
  | [], _, h => ⟨[], h⟩
  | _ :: _, _, h => by
    obtain ⟨v, h⟩ := withRes_ex h
    obtain ⟨vs, h⟩ := withResL_ex h
    exact ⟨_, h⟩

def withRet (tab : Tab) (ts : List Nat) (k : AV → Prop) : Prop :=
  match ts with
  | [t] => withRes tab t k
  | ts => withResL tab ts fun vs => k (.tup vs)

theorem withRet_ex {tab : Tab} {ts : List Nat} {k : AV → Prop} (h : withRet tab ts k) : ∃ v, k v := by
  unfold withRet at h
  split at h
  · exact withRes_ex h
  · obtain ⟨vs, h⟩ := withResL_ex h; exact ⟨_, h⟩

/-- The size of a slice's elements. -/
def szOf (tab : Tab) (t : Nat) : Option Nat :=
  match tab t with
  | some ti => match ti.kind with | .slice e => (match tab e with | some ei => some ei.size | none => none) | _ => none
  | none => none

def fixCs : List CK → List AV → List AV
  | c :: r, v :: s => (match c with | .sl sz => fixN (some sz) v | _ => v) :: fixCs r s
  | _, s => s

abbrev OK := AV → List (Nat × Blk) → List Nat → Prop

def flatCs (cs : List AV) : Bool := cs.all fun y => match y with | .agg _ => false | .tup _ => false | _ => true

section
variable (P : Program) (tab : Tab) (nG : Nat) (G0 : Nat → Option Obj) (tm : List AV) (hp : List (Option Blk)) (o : Oper)

def ev (x : Operand) : AV := evA (tmF tm) x

def kLoad (t : TypeId) (x : Operand) (k : OK) : Prop :=
  match tab t with
  | none => False
  | some ti =>
    match ev tm x with
    | .ref id off =>
      match hpF hp id with
      | some (.var cs) => forceL ((cs.drop off).take ti.size) fun c => bif c.length == ti.size && flatCs c then loadK ti c fun v => k v [] [id] else False
      | _ => False
    | .rptr cs => forceL (cs.take ti.size) fun c => bif c.length == ti.size && flatCs c then loadK ti c fun v => k v [] [] else False
    | .eref sz id i off =>
      match hpF hp id with
      | some (.arr sz' xs) => bif sz' == sz then withCells ti.cells fun c => (∃ z, xs[i]? = some z ∧ (z.drop off).take ti.size = c) ∧ (bif c.length == ti.size && flatCs c then loadK ti c fun v => k v [] [id] else False) else False
      | _ => False
    | _ => False

def kStore (t : TypeId) (x y : Operand) (k : OK) : Prop :=
  match tab t with
  | none => False
  | some ti =>
    forceK (ev tm y) fun v =>
    match ev tm x with
    | .ref id off =>
      match hpF hp id with
      | some (.var cs) => bif v.solid && v.cells.length == ti.size && decide (off + ti.size ≤ cs.length) then k .dead [(id, .var (setR cs off v.cells))] [id] else False
      | _ => False
    | .eref sz id i off =>
      match hpF hp id with
      | some (.arr sz' xs) => bif sz' == sz && v.solid && (v.cells.map AV.strip).all AV.pureC && v.cells.length == ti.size && decide (off + ti.size ≤ sz) then k .dead [(id, .arr sz (xs.set i (setR (xs.getD i []) off (v.cells.map AV.strip))))] [id] else False
      | _ => False
    | _ => False

def notDead : AV → Bool
  | .dead => false
  | _ => true

def kFieldAddr (t : TypeId) (x : Operand) (f : Nat) (k : OK) : Prop :=
  match tab t with
  | none => False
  | some ti =>
    match ti.kind with
    | .struct fs =>
      match fs[f]? with
      | some (off, ft) =>
        match tab ft with
        | some fi => forceK (movP (ev tm x) off) fun v => bif notDead v && fi.size != 0 then k v [] [] else False
        | none => False
      | none => False
    | _ => False

/-- One case for each place among a few. -/
def splitN : Nat → Nat → Int → (Nat → Prop) → Prop
  | 0, i, _, k => k i
  | n + 1, i, j, k => ifK (j == i) (k i) (splitN n (i + 1) j k)

theorem splitN_snd {k : Nat → Prop} {j : Int} : ∀ (n i : Nat), (i : Int) ≤ j → j ≤ i + n → splitN n i j k → k j.toNat
  | 0, i, h1, h2, h => by
    have : j.toNat = i := by omega
    rw [this]; exact h
  | n + 1, i, h1, h2, h => by
    simp only [splitN, ifK_iff, beq_iff_eq, beq_eq_false_iff_ne] at h
    by_cases e : j = i
    · have : j.toNat = i := by omega
      rw [this]; exact h.1 e
    · exact splitN_snd n (i + 1) (by omega) (by omega) (h.2 e)

def atK (m : Nat) (j : Int) (k : Nat → Prop) : Prop := Bool.rec (motive := fun _ => Prop) (k j.toNat) (splitN (m - 1) 0 j k) (Nat.ble m 4)

theorem atK_snd {m : Nat} {j : Int} {k : Nat → Prop} (h1 : 0 ≤ j) (h2 : j < m) (h : atK m j k) : k j.toNat := by
  unfold atK at h
  cases hb : Nat.ble m 4 with
  | false => rw [hb] at h; exact h
  | true => rw [hb] at h; exact splitN_snd (m - 1) 0 h1 (by omega) h

def kIndexAddr (t : TypeId) (x i : Operand) (k : OK) : Prop :=
  match tab t with
  | none => False
  | some ti =>
    match ev tm i with
    | .int _ j =>
      match ti.kind with
      | .slice e =>
        match tab e with
        | none => False
        | some ei =>
          match ev tm x with
          | .sl sz _ _ xs => bif sz == ei.size then 0 ≤ j ∧ withCells ei.cells fun z => xs[j.toNat]? = some z ∧ k (.rptr z) [] [] else False
          | .rsl sz id off len => bif sz == ei.size then 0 ≤ j ∧ j < len ∧ k (.eref sz id (off + j.toNat) 0) [] [] else False
          | _ => False
      | .arr m e =>
        match tab e with
        | none => False
        | some ei => 0 ≤ j ∧ j < m ∧ atK m j fun i => forceK (movP (ev tm x) (i * ei.size)) fun v => bif notDead v then k v [] [] else False
      | _ => False
    | _ => False

def kIndex (t : TypeId) (x i : Operand) (k : OK) : Prop :=
  match tab t with
  | none => False
  | some ti =>
    match ev tm i with
    | .int _ j =>
      match ti.kind with
      | .scalar .str => match ev tm x with | .str s => 0 ≤ j ∧ ∃ c : UInt8, s[j.toNat]? = some c ∧ k (.int .u8 c.toNat) [] [] | _ => False
      | .arr m e =>
        match tab e with
        | none => False
        | some ei =>
          match ev tm x with
          | .agg cs => 0 ≤ j ∧ j < m ∧ atK m j fun i => forceL ((cs.drop (i * ei.size)).take ei.size) fun c => bif c.length == ei.size && flatCs c && decide (i * ei.size + ei.size ≤ cs.length) then loadK ei c fun v => k v [] [] else False
          | _ => False
      | _ => False
    | _ => False

def loOf (x : Option Operand) (k : Int → Prop) : Prop :=
  match x with
  | none => k 0
  | some y => match ev tm y with | .int _ j => k j | _ => False

def hiOf (x : Option Operand) (n : Nat) (k : Int → Prop) : Prop :=
  match x with
  | none => k n
  | some y => match ev tm y with | .int _ j => k j | _ => False

def kSlice (t : TypeId) (x : Operand) (lo hi : Option Operand) (k : OK) : Prop :=
  match tab t with
  | none => False
  | some ti =>
    match ti.kind with
    | .scalar .str => match ev tm x with | .str s => loOf tm lo fun l => hiOf tm hi s.length fun h => 0 ≤ l ∧ l ≤ h ∧ h ≤ s.length ∧ k (.str ((s.take h.toNat).drop l.toNat)) [] [] | _ => False
    | .slice e =>
      match tab e with
      | none => False
      | some ei => match ev tm x with | .sl sz nil _ xs => bif sz == ei.size then loOf tm lo fun l => hiOf tm hi xs.length fun h => 0 ≤ l ∧ l ≤ h ∧ h ≤ xs.length ∧ k (.sl sz nil none ((xs.take h.toNat).drop l.toNat)) [] [] else False | _ => False
    | _ => False

def kField (t : TypeId) (x : Operand) (f : Nat) (k : OK) : Prop :=
  match tab t with
  | none => False
  | some ti =>
    match ti.kind with
    | .struct fs =>
      match fs[f]? with
      | some (off, ft) =>
        match tab ft with
        | some fi => match ev tm x with | .agg cs => forceL ((cs.drop off).take fi.size) fun c => bif c.length == fi.size && flatCs c then loadK fi c fun v => k v [] [] else False | _ => False
        | none => False
      | none => False
    | _ => False

def eqK (op : BinOp) (b : Bool) (k : OK) : Prop :=
  match op with
  | .eql => k (.bool b) [] []
  | .neq => k (.bool (!b)) [] []
  | _ => False

def kBin (op : BinOp) (xt : TypeId) (x y : Operand) (k : OK) : Prop :=
  match ev tm x with
  | .int kd i =>
    match ev tm y with
    | .int kd' j =>
      match op with
      | .shr => 0 ≤ j ∧ k (.int kd (i.fdiv (2 ^ min j.toNat kd.bits))) [] []
      | .quo => bif kd' == kd then j ≠ 0 ∧ k (.int kd (kd.wrap (i.tdiv j))) [] [] else False
      | .rem => bif kd' == kd then j ≠ 0 ∧ k (.int kd (i.tmod j)) [] [] else False
      | op => bif kd' == kd then (match arithA op kd i j with | some r => forceK r fun r => k r [] [] | none => False) else False
    | _ => False
  | .str s =>
    match ev tm y with
    | .str r =>
      match op with
      | .add => s.length + r.length ≤ 9223372036854775807 ∧ k (.str (s ++ r)) [] []
      | .eql => k (.bool (s == r)) [] []
      | .neq => k (.bool (!(s == r))) [] []
      | _ => False
    | _ => False
  | .bool s =>
    match ev tm y with
    | .bool r => match tab xt with | some ti => (match ti.kind with | .scalar .bool => eqK op (s == r) k | _ => False) | none => False
    | _ => False
  | .sl _ nil _ _ =>
    match ev tm y with
    | .nils => match tab xt with | some ti => (match ti.kind with | .slice _ => eqK op nil k | _ => False) | none => False
    | _ => False
  | .agg ys =>
    match ev tm y with
    | .agg zs =>
      match tab xt with
      | some ti => match eqPlan tab 20 xt with | some plan => bif ti.kind.isAgg && eqFits plan ys && eqFits plan zs then eqK op (eqAll ys zs) k else False | none => False
      | none => False
    | _ => False
  | .iface => match y with | .const .nilIface => (match tab xt with | some ti => (match ti.kind with | .scalar .iface => eqK op false k | _ => False) | none => False) | _ => False
  | .nilIface => match y with | .const .nilIface => (match tab xt with | some ti => (match ti.kind with | .scalar .iface => eqK op true k | _ => False) | none => False) | _ => False
  | _ => False

def kNot (x : Operand) (k : OK) : Prop :=
  match ev tm x with
  | .bool b => k (.bool (!b)) [] []
  | _ => False

def kConv (s t : TypeId) (x : Operand) (k : OK) : Prop :=
  match tab s, tab t with
  | some si, some ti =>
    match si.kind, ti.kind with
    | .scalar (.int kd), .scalar (.int kd') => match ev tm x with | .int kd2 i => bif kd2 == kd then k (.int kd' (kd'.wrap i)) [] [] else False | _ => False
    | _, _ => False
  | _, _ => False

def kMin (mx : Bool) (x y : Operand) (k : OK) : Prop :=
  match ev tm x, ev tm y with
  | .int kd i, .int _ j => match mx with | true => k (.int kd (if j > i then j else i)) [] [] | false => k (.int kd (if j < i then j else i)) [] []
  | _, _ => False

def kExtract (x : Operand) (i : Nat) (k : OK) : Prop :=
  match ev tm x with
  | .tup vs => match vs[i]? with | some y => forceK y fun y => (match y with | .tup _ => False | y => k y [] []) | none => False
  | _ => False

def kFunc (f : Nat) (cap : List Operand) (k : OK) : Prop :=
  forceL (cap.map (ev tm)) fun cs => bif cs.all fun y => match y with | .func _ _ => false | .agg _ => false | .tup _ => false | .dead => false | _ => true then k (.func f cs) [] [] else False

/-- What is told of a call beforehand: the blocks that are lent; which results are slices that may grow. -/
structure Ann where
  lent : List Nat
  toks : List Nat
  arrs : List Nat := []
  deriving Inhabited

def withLike (ρ : Nat → Option Nat) : AV → (AV → Prop) → Prop
  | .bool _, k => ∃ b, k (.bool b)
  | .int kd _, k => ∃ n, k (.int kd n)
  | .str _, k => ∃ s, k (.str s)
  | .sl sz _ _ _, k => ∃ nil xs, k (.sl sz nil none xs)
  | .mp _ _, k => ∃ nil es, k (.mp nil es)
  | v, k => k (renC ρ v)

theorem withLike_ex {ρ : Nat → Option Nat} {v : AV} {k : AV → Prop} (h : withLike ρ v k) : ∃ u, k u := by
  cases v <;> simp only [withLike] at h <;> first | exact ⟨_, h⟩ | (obtain ⟨_, h⟩ := h; exact ⟨_, h⟩) | (obtain ⟨_, _, h⟩ := h; exact ⟨_, h⟩)

def withLikes (ρ : Nat → Option Nat) : List AV → (List AV → Prop) → Prop
  | [], k => k []
  | v :: r, k => withLike ρ v fun v' => withLikes ρ r fun r' => k (v' :: r')

theorem withLikes_ex {ρ : Nat → Option Nat} : ∀ {vs : List AV} {k : List AV → Prop}, withLikes ρ vs k → ∃ us, k us
  | [], _, h => ⟨_, h⟩
  | _ :: _, _, h => by
    obtain ⟨v, h⟩ := withLike_ex h
    obtain ⟨vs, h⟩ := withLikes_ex h
    exact ⟨_, h⟩

def withBlks (ρ : Nat → Option Nat) (hp : List (Option Blk)) : List Nat → (List (Option Blk) → Prop) → Prop
  | [], k => k []
  | id :: r, k =>
    match hpF hp id with
    | some (.var cs) => withLikes ρ cs fun cs' => withBlks ρ hp r fun bs => k (some (.var cs') :: bs)
    | some (.arr sz _) => ∃ xs, withBlks ρ hp r fun bs => k (some (.arr sz xs) :: bs)
    | some (.mp _) => ∃ es, withBlks ρ hp r fun bs => k (some (.mp es) :: bs)
    | _ => False

theorem withBlks_ex {ρ : Nat → Option Nat} {hp : List (Option Blk)} : ∀ {L : List Nat} {k : List (Option Blk) → Prop}, withBlks ρ hp L k → ∃ bs, k bs
  | [], _, h => ⟨_, h⟩
  | id :: r, k, h => by
    unfold withBlks at h
    split at h
    · obtain ⟨cs, h⟩ := withLikes_ex h
      obtain ⟨bs, h⟩ := withBlks_ex h
      exact ⟨_, h⟩
    · obtain ⟨xs, h⟩ := h
      obtain ⟨bs, h⟩ := withBlks_ex h
      exact ⟨_, h⟩
    · obtain ⟨xs, h⟩ := h
      obtain ⟨bs, h⟩ := withBlks_ex h
      exact ⟨_, h⟩
    · exact h.elim

def tokRs (toks arrs : List Nat) : List AV → Nat → Nat → (List AV → List (Option Blk) → Prop) → Prop
  | [], _, _, k => k [] []
  | v :: r, p, j, k =>
    bif toks.elem p then
      match v with
      | .sl sz nil _ xs => tokRs toks arrs r (p + 1) (j + 1) fun vs gs => k (.sl sz nil (some j) xs :: vs) (some (.grow sz xs.length) :: gs)
      | _ => False
    else bif arrs.elem p then
      match v with
      | .sl sz nil _ xs => ifK nil (tokRs toks arrs r (p + 1) j fun vs gs => k (.sl sz true none [] :: vs) gs) (tokRs toks arrs r (p + 1) (j + 1) fun vs gs => k (.rsl sz j 0 xs.length :: vs) (some (.arr sz xs) :: gs))
      | _ => False
    else bif arrs.elem (p + 100) then
      match v with
      | .sl sz nil _ xs => nil = false ∧ tokRs toks arrs r (p + 1) (j + 1) fun vs gs => k (.rsl sz j 0 xs.length :: vs) (some (.arr sz xs) :: gs)
      | _ => False
    else tokRs toks arrs r (p + 1) j fun vs gs => k (v :: vs) gs

theorem tokRs_ex {toks arrs : List Nat} : ∀ {vs : List AV} {p j : Nat} {k : List AV → List (Option Blk) → Prop}, tokRs toks arrs vs p j k → ∃ us gs, k us gs
  | [], _, _, _, h => ⟨_, _, h⟩
  | v :: r, p, j, k, h => by
    unfold tokRs at h
    cases hc : toks.elem p with
    | true =>
      rw [hc, cond_true] at h
      split at h
      · obtain ⟨us, gs, h⟩ := tokRs_ex h; exact ⟨_, _, h⟩
      · exact h.elim
    | false =>
      rw [hc, cond_false] at h
      cases ha : arrs.elem p with
      | true =>
        rw [ha, cond_true] at h
        split at h
        · rename_i nil tok xs
          rw [ifK_iff] at h
          cases nil
          · obtain ⟨us, gs, h⟩ := tokRs_ex (h.2 rfl); exact ⟨_, _, h⟩
          · obtain ⟨us, gs, h⟩ := tokRs_ex (h.1 rfl); exact ⟨_, _, h⟩
        · exact h.elim
      | false =>
        rw [ha, cond_false] at h
        cases hb : arrs.elem (p + 100) with
        | true =>
          rw [hb, cond_true] at h
          split at h
          · obtain ⟨us, gs, h⟩ := tokRs_ex h.2; exact ⟨_, _, h⟩
          · exact h.elim
        | false =>
          rw [hb, cond_false] at h
          obtain ⟨us, gs, h⟩ := tokRs_ex h; exact ⟨_, _, h⟩

def tokRet (toks arrs : List Nat) (j : Nat) (v : AV) (k : AV → List (Option Blk) → Prop) : Prop :=
  match v with
  | .tup vs => tokRs toks arrs vs 0 j fun vs gs => k (.tup vs) gs
  | .agg vs => tokRs toks arrs vs 0 j fun vs gs => k (.agg vs) gs
  | v => tokRs toks arrs [v] 0 j fun vs gs => k (vs.headD .dead) gs

theorem tokRet_ex {toks arrs : List Nat} {j : Nat} {v : AV} {k : AV → List (Option Blk) → Prop} (h : tokRet toks arrs j v k) : ∃ u gs, k u gs := by
  unfold tokRet at h
  split at h
  · obtain ⟨us, gs, h⟩ := tokRs_ex h; exact ⟨_, _, h⟩
  · obtain ⟨us, gs, h⟩ := tokRs_ex h; exact ⟨_, _, h⟩
  · obtain ⟨us, gs, h⟩ := tokRs_ex h; exact ⟨_, _, h⟩

def nodupB : List Nat → Bool
  | [] => true
  | x :: r => !r.elem x && nodupB r

theorem nodupB_sound : ∀ {L : List Nat}, nodupB L = true → L.Nodup
  | [], _ => List.nodup_nil
  | x :: r, h => by
    simp only [nodupB, Bool.and_eq_true, Bool.not_eq_true', List.elem_eq_mem, decide_eq_false_iff_not] at h
    exact List.nodup_cons.2 ⟨h.1, nodupB_sound h.2⟩

/-! Which blocks a value names. -/
def idsR : AV → List Nat
  | .ref id _ => [id]
  | .eref _ id _ _ => [id]
  | .rsl _ id _ _ => [id]
  | .rmp id => [id]
  | .iter id => [id]
  | .sl _ _ (some τ) _ => [τ]
  | _ => []
def idsC : AV → List Nat
  | .func _ cap => cap.flatMap idsR
  | v => idsR v
def idsA : AV → List Nat
  | .agg cs => cs.flatMap idsC
  | v => idsC v
def idsV : AV → List Nat
  | .tup vs => vs.flatMap idsA
  | v => idsA v

def addAll : List Nat → List Nat → List Nat
  | acc, [] => acc
  | acc, x :: r => bif acc.elem x then addAll acc r else addAll (acc ++ [x]) r

def reach (hp : List (Option Blk)) : Nat → List Nat → List Nat
  | 0, L => L
  | n + 1, L => reach hp n (addAll L (L.flatMap fun id => match hpF hp id with | some (.var cs) => cs.flatMap idsC | _ => []))

def forceIds : List Nat → (List Nat → Prop) → Prop
  | [], k => k []
  | x :: r, k => forceIds r fun r' => k (x :: r')

theorem forceIds_eq : ∀ (l : List Nat) (k : List Nat → Prop), forceIds l k = k l
  | [], _ => rfl
  | x :: r, k => by simp only [forceIds, forceIds_eq r]

def lendable (hp : List (Option Blk)) (id : Nat) : Bool :=
  Nat.blt id hp.length && (match hpF hp id with | some (.grow _ _) => false | some _ => true | none => false)

def notTup : AV → Bool
  | .tup _ => false
  | _ => true

def kCall (g : Operand) (args : List Operand) (ts : List TypeId) (ann : Option Ann) (k : OK) : Prop :=
  match ev tm g with
  | .func f cap =>
    match P.funcs[f]? with
    | none => False
    | some fn =>
      match ann with
      | none =>
        bif cap.isEmpty && ts.length == args.length && (args.all fun x => notTup (ev tm x)) then
          let ids := args.flatMap fun x => viewIds (ev tm x)
          forceL (List.zipWith (fun x t => viewA (hpF hp) (fixN (szOf tab t) (ev tm x))) args ts) fun as =>
            withRet tab fn.resultTypes.toList fun r => Good P nG G0 f as [] r [] ∧ (bif r.plain || ids.isEmpty then k r [] ids else False)
        else False
      | some a =>
        forceIds (a.lent.filter fun id => lendable hp id && (reach hp 3 (addAll [] ((args.flatMap fun x => idsV (ev tm x)) ++ cap.flatMap idsR))).elem id) fun L =>
        let ρ := pos L
        bif nodupB L && ts.length == args.length && L.all (lendable hp) then
          forceL (List.zipWith (fun x t => renV ρ (fixN (szOf tab t) (ev tm x))) args ts ++ cap.map (renR ρ)) fun as =>
            withRet tab fn.resultTypes.toList fun r0 => tokRet a.toks a.arrs L.length r0 fun r gs =>
              withBlks ρ hp L fun HL => Good P nG G0 f as (L.map fun id => (hpF hp id).map (renB ρ)) r (HL ++ gs) ∧
                (bif HL.length == L.length && gs.all Option.isSome then k (renV (fun i => (L ++ List.range' hp.length gs.length)[i]?) r) (wsOf (fun i => (L ++ List.range' hp.length gs.length)[i]?) (L ++ List.range' hp.length gs.length) (HL ++ gs)) L else False)
        else False
  | _ => False

def kLookup (t : TypeId) (x i : Operand) (ok : Bool) (k : OK) : Prop :=
  match tab t with
  | none => False
  | some ti =>
    match ti.kind with
    | .map kt et =>
      match tab kt, tab et with
      | some ki, some ei =>
        match ki.kind, ei.cells, ev tm i with
        | .scalar (.int kd), [c], .int kd' n =>
          bif kd' == kd && !ei.kind.isAgg then
            match ev tm x with
            | .mp _ es => withCell c fun v => ∃ b, mlookD kd n (zeroA c) es = some (v, b) ∧ (match ok with | true => k (.tup [v, .bool b]) [] [] | false => k v [] [])
            | .rmp id => match hpF hp id with | some (.mp es) => withCell c fun v => ∃ b, mlookD kd n (zeroA c) es = some (v, b) ∧ (match ok with | true => k (.tup [v, .bool b]) [] [id] | false => k v [] [id]) | _ => False
            | _ => False
          else False
        | _, _, _ => False
      | _, _ => False
    | _ => False

def kMapSet (t : TypeId) (m i x : Operand) (k : OK) : Prop :=
  match tab t with
  | none => False
  | some ti =>
    match ti.kind with
    | .map kt _ =>
      match tab kt with
      | some ki =>
        match ki.kind, ev tm m, ev tm i with
        | .scalar (.int kd), .rmp id, .int kd' n =>
          match hpF hp id with
          | some (.mp es) => bif kd' == kd && (ev tm x).pureC then ∃ es', mupd kd n (ev tm x) es = some es' ∧ k .dead [(id, .mp es')] [id] else False
          | _ => False
        | _, _, _ => False
      | none => False
    | _ => False

def kRange (t : TypeId) (x : Operand) (k : OK) : Prop :=
  match tab t with
  | none => False
  | some ti =>
    match ti.kind with
    | .map _ _ => match ev tm x with | .mp _ es => k (.iter hp.length) [(hp.length, .iter es none)] [] | _ => False
    | _ => False

def kEntry (x : Operand) (k : OK) : Prop :=
  match ev tm x with
  | .iter id => match hpF hp id with | some (.iter _ (some p)) => k (.tup [p.1, p.2]) [] [id] | _ => False
  | _ => False

def kMakeSlice (t : TypeId) (l c : Operand) (k : OK) : Prop :=
  match tab t with
  | none => False
  | some ti =>
    match ti.kind with
    | .slice e =>
      match tab e with
      | none => False
      | some ei =>
        match ev tm l, ev tm c with
        | .int _ n, .int _ n' =>
          n' = n ∧ 0 ≤ n ∧ (ei.bytes : Int) * n ≤ 281474976710656 ∧ n ≤ 9223372036854775807 ∧
            forceL (ei.cells.map zeroA) fun zs => bif zs.all AV.pureC && ei.size != 0 then k (.rsl ei.size hp.length 0 n.toNat) [(hp.length, .arr ei.size (List.replicate n.toNat zs))] [] else False
        | _, _ => False
    | _ => False

def kLen (t : TypeId) (x : Operand) (k : OK) : Prop :=
  match tab t with
  | none => False
  | some ti =>
    match ti.kind with
    | .scalar .str => match ev tm x with | .str s => k (.int .i64 s.length) [] [] | _ => False
    | .slice _ => match ev tm x with | .sl _ _ _ xs => k (.int .i64 xs.length) [] [] | .rsl _ _ _ n => k (.int .i64 n) [] [] | .nils => k (.int .i64 0) [] [] | _ => False
    | .map _ _ => match ev tm x with | .mp _ es => k (.int .i64 es.length) [] [] | _ => False
    | .arr n _ => k (.int .i64 n) [] []
    | _ => False

def kAppend (t : TypeId) (x y : Operand) (k : OK) : Prop :=
  match tab t with
  | none => False
  | some ti =>
    match ti.kind with
    | .slice e =>
      match tab e with
      | none => False
      | some ei =>
        bif ei.size != 0 && ei.bytes != 0 then
          match ev tm y with
          | .sl sz2 _ _ ys =>
            bif sz2 == ei.size then
              match ev tm x with
              | .sl sz nil tok xs =>
                bif sz == ei.size then
                  match tok with
                  | some τ =>
                    match hpF hp τ with
                    | some (.grow sz' m) => bif sz' == ei.size then (xs.length + ys.length) * ei.bytes ≤ 140737488355328 ∧ xs.length = m ∧ k (.sl ei.size (nil && ys.isEmpty) (some τ) (xs ++ ys)) [(τ, .grow ei.size (m + ys.length))] [τ] else False
                    | _ => False
                  | none => match nil, xs with | true, [] => ys.length * ei.bytes ≤ 140737488355328 ∧ k (.sl ei.size ys.isEmpty (some hp.length) ys) [(hp.length, .grow ei.size ys.length)] [] | _, _ => False
                else False
              | .nils => ys.length * ei.bytes ≤ 140737488355328 ∧ k (.sl ei.size ys.isEmpty (some hp.length) ys) [(hp.length, .grow ei.size ys.length)] []
              | _ => False
            else False
          | _ => False
        else False
    | _ => False

def kBuild (t : TypeId) (parts : List (Nat × Operand)) (k : OK) : Prop :=
  match tab t with
  | none => False
  | some ti =>
    match ti.kind with
    | .struct fs =>
      bif fs.all fun f => (tab f.2).isSome then
        match fillA (fun i => match fs[i]? with | some f => some (f.1, ((tab f.2).map (·.size)).getD 0) | none => none) (ti.cells.map zeroA) (parts.map fun p => (p.1, ev tm p.2)) with
        | some res => forceL (fixCs ti.cells res) fun res => k (.agg res) [] []
        | none => False
      else False
    | .arr _ e =>
      match tab e with
      | none => False
      | some ei =>
        match fillA (fun i => some (i * ei.size, ei.size)) (ti.cells.map zeroA) (parts.map fun p => (p.1, ev tm p.2)) with
        | some res => forceL (fixCs ti.cells res) fun res => k (.agg res) [] []
        | none => False
    | _ => False

def kBuildSlice (t : TypeId) (len : Nat) (parts : List (Nat × Operand)) (k : OK) : Prop :=
  match tab t with
  | none => False
  | some ti =>
    match ti.kind with
    | .slice e =>
      match tab e with
      | none => False
      | some ei =>
        match fillA (fun i => some (i * ei.size, ei.size)) ((List.range (len * ei.size)).map fun k => (ei.cells.map zeroA).getD (k % ei.size) .dead) (parts.map fun p => (p.1, ev tm p.2)) with
        | some res => forceL (res.map AV.strip) fun res => bif res.all AV.pureC && ei.size != 0 && decide (len * ei.size ≤ 16777216) then k (.sl ei.size false (some hp.length) (chunk ei.size len res)) [(hp.length, .grow ei.size len)] [] else False
        | none => False
    | _ => False

def opK (ann : Option Ann) (k0 : OK) : Prop :=
  let k : OK := fun v ws rd => forceK (fixN (szOf tab o.type) v) fun v => bif ws.all (fun p => rd.elem p.1 || decide (hp.length ≤ p.1)) then k0 v ws rd else False
  match o.op with
  | .move x => k (ev tm x) [] []
  | .assign x => k (ev tm x) [] []
  | .pick c x y => match ev tm c with | .bool t => ifK t (k (ev tm x) [] []) (k (ev tm y) [] []) | _ => False
  | .alloc t => match tab t with | some ti => k (.ref hp.length 0) [(hp.length, .var (ti.cells.map zeroA))] [] | none => False
  | .box _ x => forceK (ev tm x) fun v => bif v.solid then k (.ref hp.length 0) [(hp.length, .var v.cells)] [] else False
  | .load t x => kLoad tab tm hp t x k
  | .store t x y => kStore tab tm hp t x y k
  | .nilCheck x => forceK (ev tm x) fun v => bif notDead (movP v 0) then k v [] [] else False
  | .fieldAddr t x f => kFieldAddr tab tm t x f k
  | .indexAddr t x i => kIndexAddr tab tm t x i k
  | .index t x i => kIndex tab tm t x i k
  | .slice t x lo hi none => kSlice tab tm t x lo hi k
  | .field t x f => kField tab tm t x f k
  | .extract x i => kExtract tm x i k
  | .makeFunc (.func f) first cap => bif first.isEmpty then kFunc tm f cap.toList k else False
  | .binOp op xt x y _ => kBin tab tm op xt x y k
  | .unOp .not _ x => kNot tm x k
  | .convert s t x => kConv tab tm s t x k
  | .build t parts => kBuild tab tm t parts.toList k
  | .buildSlice t len parts => kBuildSlice tab tm hp t len parts.toList k
  | .lookup t x i ok => kLookup tab tm hp t x i ok k
  | .makeMap _ none => k (.rmp hp.length) [(hp.length, .mp [])] []
  | .mapUpdate t m i x => kMapSet tab tm hp t m i x k
  | .insert t m i x => kMapSet tab tm hp t m i x k
  | .range t x => kRange tab tm hp t x k
  | .entry x => kEntry tm hp x k
  | .makeSlice t l c => kMakeSlice tab tm hp t l c k
  | .call { callee := .builtin .len, args, argTypes } => match args.toList, argTypes.toList with | [x], [t] => kLen tab tm t x k | _, _ => False
  | .call { callee := .builtin .min, args, .. } => match args.toList with | [x, y] => kMin tm false x y k | _ => False
  | .call { callee := .builtin .max, args, .. } => match args.toList with | [x, y] => kMin tm true x y k | _ => False
  | .call { callee := .builtin .append, args, argTypes } => match args.toList, argTypes.toList with | [x, y], [t, t'] => bif t == t' then kAppend tab tm hp t x y k else False | _, _ => False
  | .call { callee := .value g, args, argTypes } => kCall P tab nG G0 tm hp g args.toList argTypes.toList ann k
  | _ => False
end
end Go.Ab
