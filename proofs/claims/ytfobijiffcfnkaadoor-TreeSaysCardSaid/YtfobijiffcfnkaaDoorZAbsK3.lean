/- New arrays; no condition. -/
import Derived.Test.YtfobijiffcfnkaaDoorZAbsK2
namespace Go.Ab
section ops
variable {P : Program} {tab : Tab} {nG : Nat} {G0 : Nat → Option Obj} {n0 : Nat} {o : Oper} {rd : List Nat} {tm0 : Nat → AV} {hp0 : Nat → Option Blk}

theorem snd_makeSlice {t e : TypeId} {ti ei : TI} {l c : Operand} {kl kc : IntKind} {n : Int} {id : Nat} (ht : TIok P t ti) (hk : ti.kind = .slice e) (he : TIok P e ei) (_hz : ei.size ≠ 0)
    (ho : o.op = .makeSlice t l c) (hl : evA tm0 l = .int kl n) (hc : evA tm0 c = .int kc n) (h0 : 0 ≤ n) (hb : (ei.bytes : Int) * n ≤ 281474976710656) (h63 : n ≤ 9223372036854775807)
    (hp : (ei.cells.map zeroA).all AV.pureC = true) (hrd : id ∉ rd) :
    OpSnd P nG G0 n0 o (.rsl ei.size id 0 n.toNat) [(id, .arr ei.size (List.replicate n.toNat (ei.cells.map zeroA)))] rd tm0 hp0 := by
  have hkk := ht.kind
  rw [hk] at hkk
  obtain ⟨i, hi, hsz, hby, hzv⟩ := he.info
  refine OpSnd.new hrd fun n1 K S tm hp2 a w hr hxx _ => ⟨.slice (some ⟨w.heap.size, 0, none⟩) n.toNat n.toNat, .cells (madeCells ei.zeroV.cells (n.toNat * i.size)) e, .arr w.heap.size ei.size n.toNat, 0, ?_, rfl, .inl rfl, fun hK hS => ⟨?_, ?_⟩⟩
  · have hL := VR_int (hl ▸ hxx l (by rw [ho]; simp [Op.operands]))
    have hC := VR_int (hc ▸ hxx c (by rw [ho]; simp [Op.operands]))
    rw [execOp_eq ho]; unfold execOp
    simp [hL, hC, run_make w t e i ei.zeroV hkk hi hzv kl kc n n h0 (Int.le_refl _) (by rw [hby]; exact hb) h63]
  · obtain ⟨⟨z1, z2⟩, z3⟩ := zero_cells (K := K) (S := S) (w := w) he
    have hlen : (ei.cells.map zeroA).length = ei.size := by simp [he.len]
    refine ⟨rfl, by simp, fun j x hx => ?_, _, e, heap_alloc_eq _ _, by simp [size_madeCells, hsz], fun j x q y u hx hy hu => ?_⟩
    · rw [List.getElem?_replicate] at hx
      split at hx
      · cases hx; exact hlen
      · cases hx
    · rw [List.getElem?_replicate] at hx
      split at hx
      · cases hx
        have hq : q < ei.size := by rw [← hlen]; exact (List.getElem?_eq_some_iff.1 hy).1
        have hmod : (j * ei.size + q) % ei.size = q := by rw [Nat.mul_comm, Nat.mul_add_mod]; exact Nat.mod_eq_of_lt hq
        have hq2 : q < ei.zeroV.cells.size := by rw [z3]; exact hq
        simp only [madeCells, Array.getElem?_map, Option.map_eq_some_iff] at hu
        obtain ⟨m, hm, rfl⟩ := hu
        have hm : m = j * ei.size + q := by
          have := Array.getElem?_eq_some_iff.1 hm
          obtain ⟨h1, h2⟩ := this
          simpa using h2.symm
        subst hm
        rw [z3, hmod]
        have hget : ei.zeroV.cells[q]? = some (ei.zeroV.cells[q]!) := by simp [hq2]
        exact ((z2 q y _ hy hget).pure (List.all_eq_true.1 hp y (List.mem_of_getElem? hy))).mono hS
      · cases hx
  · simp only [VR, VRa, VRc, VR0]
    exact ⟨w.heap.size, n.toNat, n.toNat, by simp [updK], by omega, Nat.le_refl _, by simp [ad]⟩
end ops
end Go.Ab
