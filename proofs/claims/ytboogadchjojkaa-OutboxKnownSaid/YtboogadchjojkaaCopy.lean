/- Plain laws of memory: copy within a row of elements of any size; a whole element stored into a row. No condition; no program in sight. -/
import Derived.Test.YtboogadchjojkaaMem
import Derived.Laws.CopyOwn
namespace Go.Proofs.Ytboogadchjojkaa
open Go.RowKit

theorem size_splice {α : Type} (L : List α) (off : Nat) (cs : List α) (h : off + cs.length ≤ L.length) : (splice L off cs).length = L.length := length_splice L off cs h

section
variable {P : Program} (w : World)
/-- THE LAW OF copy within one row -/
theorem run_copy_within (t ty e : TypeId) (i : TypeInfo) (size : Nat) (ht : P.underlying t = some (.slice e)) (hi : P.info? e = some i) (hs : i.size = size)
    (g n cap : Nat) (xs : List Value) (hown : Row w e size (.slice (some ⟨g, 0, none⟩) n cap) n xs) (h1 : ∀ u ∈ xs, u.oneCell' = true)
    (di si : Nat) (hd : di ≤ n) (hsi : si ≤ n) (m : Nat) (hm : m = min (n - si) (n - di)) :
    ∃ w', (Builtin.copy_ #[t, t] ty #[.slice (fromAddr (some ⟨g, 0, none⟩) cap di size) (n - di) (cap - di), .slice (fromAddr (some ⟨g, 0, none⟩) cap si size) (n - si) (cap - si)]).run P w = .ok (.int .i64 (m : Nat)) w' ∧
      Row w' e size (.slice (some ⟨g, 0, none⟩) n cap) n (splice xs (di * size) ((xs.drop (si * size)).take (m * size))) ∧ w.grownBy w' (some g) := by
  subst hs
  have hl := hown.1
  rcases hown.2 with ⟨h', _⟩ | ⟨g', cap', cur, h', hg, hnc, hcm, hcs, htake⟩
  · simp at h'
  · simp only [Value.slice.injEq, Option.some.injEq, Addr.mk.injEq, and_true, true_and] at h'
    obtain ⟨rfl, rfl⟩ := h'
    have hmin : Nat.min (n - si) (n - di) = m := hm.symm
    by_cases h0 : m = 0
    · subst h0
      refine ⟨w, ?_, ?_, ⟨rfl, rfl, rfl, Nat.le_refl _, fun _ _ _ => rfl⟩⟩
      · have hl0 : ∀ (x : Addr), (loadCells x 0).run P w = .ok #[] w := fun x => by simpa using run_loadCells_list (P := P) w x [] (by simp)
        have hk : ∀ d a : Option Addr, (Builtin.copy_ #[t, t] ty #[.slice d (n - di) (cap - di), .slice a (n - si) (cap - si)]).run P w = .ok (goInt 0) w := fun d a => by
          cases d <;> cases a <;> simp [Builtin.copy_, run_underlying ht, Builtin.lenOf, Builtin.firstCells, sizeOf, typeInfo, hi, hmin, storeCells, hl0]
        exact hk _ _
      · simpa [splice] using hown
    · have hd' : ¬ cap = di := by omega
      have hs' : ¬ cap = si := by omega
      unfold fromAddr
      rw [if_neg hd', if_neg hs']
      simp only [Option.map_some]
      have hle : si * i.size + m * i.size ≤ n * i.size := by rw [← Nat.add_mul]; exact Nat.mul_le_mul_right _ (by omega)
      have hle2 : di * i.size + m * i.size ≤ n * i.size := by rw [← Nat.add_mul]; exact Nat.mul_le_mul_right _ (by omega)
      have hncs : n * i.size ≤ cur.size := Nat.le_trans (Nat.mul_le_mul_right _ hnc) hcs
      obtain ⟨cs, hcsd⟩ : ∃ cs, cs = (xs.drop (si * i.size)).take (m * i.size) := ⟨_, rfl⟩
      have hcl : cs.length = m * i.size := by rw [hcsd, List.length_take, List.length_drop, hl]; omega
      have hadd : ∀ j, (⟨g, 0, none⟩ : Addr).add j = ⟨g, j, none⟩ := fun j => by unfold Addr.add; split <;> simp_all
      have hadd2 : ∀ k j, (⟨g, k, none⟩ : Addr).add j = ⟨g, k + j, none⟩ := fun k j => by unfold Addr.add; split <;> simp_all
      have hsrc : ∀ j v, cs[j]? = some v → w.cell? ((⟨g, si * i.size, none⟩ : Addr).add j) = some v := fun j v hj => by
        rw [hadd2, cell_of_row w g _ cur e (0, 0) hg]
        have hjl : j < m * i.size := by have := (List.getElem?_eq_some_iff.1 hj).1; omega
        rw [hcsd, List.getElem?_take, if_pos hjl, List.getElem?_drop, ← htake, List.getElem?_take, if_pos (by omega)] at hj
        simpa using hj
      have hone : ∀ v ∈ cs, v.oneCell' = true := fun v hv => by
        rw [hcsd] at hv; exact h1 v (List.mem_of_mem_drop (List.mem_of_mem_take hv))
      have hld := run_loadCells_list (P := P) w ⟨g, si * i.size, none⟩ cs hsrc
      rw [hcl] at hld
      have hst := run_storeCells_at P g (di * i.size) e cs 0 cur w hg (by rw [hcl]; omega) hone
      rw [← hcsd, hadd, hadd]
      refine ⟨w.setRow g (cur.toList.take (di * i.size + 0) ++ cs ++ cur.toList.drop (di * i.size + 0 + cs.length)).toArray, ?_, ?_, ⟨rfl, rfl, rfl, by simp [World.setRow], fun k _ hk => setRow_other w g k _ (fun e => hk (by rw [e]))⟩⟩
      · simp [Builtin.copy_, run_underlying ht, Builtin.lenOf, Builtin.firstCells, sizeOf, typeInfo, hi, hmin, hld, hst]
        rfl
      · refine ⟨by rw [size_splice _ _ _ (by rw [hcl, hl]; exact hle2)]; exact hl, .inr ⟨g, cap, _, rfl, setRow_heap w g cur _ e _ hg, hnc, hcm, ?_, ?_⟩⟩
        · simp only [List.size_toArray, List.length_append, List.length_take, List.length_drop, Array.length_toList]
          omega
        · show List.take (n * i.size) (cur.toList.take (di * i.size + 0) ++ cs ++ cur.toList.drop (di * i.size + 0 + cs.length)) = _
          unfold splice
          rw [← htake, Nat.add_zero, List.append_assoc]
          apply List.ext_getElem?
          intro j
          simp only [List.getElem?_take, List.getElem?_append, List.getElem?_drop, List.length_take, Array.length_toList, hcl]
          by_cases hj : j < n * i.size
          · rw [if_pos hj]
            by_cases hj2 : j < di * i.size
            · have a1 : j < min (di * i.size) cur.size := by omega
              have a2 : j < min (di * i.size) (min (n * i.size) cur.size) := by omega
              simp [a1, a2, hj2, hj]
            · have a1 : ¬ j < min (di * i.size) cur.size := by omega
              have a2 : ¬ j < min (di * i.size) (min (n * i.size) cur.size) := by omega
              rw [if_neg a1, if_neg a2]
              have e1 : min (di * i.size) cur.size = di * i.size := by omega
              have e2 : min (di * i.size) (min (n * i.size) cur.size) = di * i.size := by omega
              rw [e1, e2]
              split
              · rfl
              · rw [if_pos (by omega)]
          · rw [if_neg hj]
            have a2 : ¬ j < min (di * i.size) (min (n * i.size) cur.size) := by omega
            rw [if_neg a2]
            have e2 : min (di * i.size) (min (n * i.size) cur.size) = di * i.size := by omega
            rw [e2, if_neg (by omega), if_neg (by omega)]

/-- at a step of a region that draws its order -/
theorem step_copy_within {ops : Array Oper} {o : Oper} {a : Act} {K : Act → World → Prop} {Q : Exit → Act → World → Prop} {E : Prop} (hgd : o.guard = none) (d s : Operand) (t : TypeId)
    (ho : o.op = .call { callee := .builtin .copy, args := #[d, s], argTypes := #[t, t] })
    (e : TypeId) (i : TypeInfo) (size : Nat) (ht : P.underlying t = some (.slice e)) (hi : P.info? e = some i) (hs : i.size = size)
    (g n cap : Nat) (xs : List Value) (hown : Row w e size (.slice (some ⟨g, 0, none⟩) n cap) n xs) (h1 : ∀ u ∈ xs, u.oneCell' = true)
    (di si : Nat) (hd : di ≤ n) (hsi : si ≤ n) (m : Nat) (hm : m = min (n - si) (n - di))
    (dl dc sl sc : Nat) (e1 : dl = n - di) (e2 : dc = cap - di) (e3 : sl = n - si) (e4 : sc = cap - si)
    (hdv : a.eval d = .slice (fromAddr (some ⟨g, 0, none⟩) cap di size) dl dc) (hsv : a.eval s = .slice (fromAddr (some ⟨g, 0, none⟩) cap si size) sl sc)
    (h : ∀ w', Row w' e size (.slice (some ⟨g, 0, none⟩) n cap) n (splice xs (di * size) ((xs.drop (si * size)).take (m * size))) → w.grownBy w' (some g) → K (a.put o.dst (.int .i64 (m : Nat))) w') :
    if Region.wanted o (yielded ops a.tmps) = true then Oper.wp P o a w K Q else E := by
  have hw : Region.wanted o (yielded ops a.tmps) = true := by simp [Region.wanted, hgd]
  rw [if_pos hw]
  subst e1 e2 e3 e4
  obtain ⟨w', hr, h2, h3⟩ := run_copy_within (P := P) w t o.type e i size ht hi hs g n cap xs hown h1 di si hd hsi m hm
  unfold Oper.wp execOp
  simp only [ho, resolve, invoke, builtin, Sem.run_bind, Sem.run_pure, Result.andThen_ok, List.map_toArray, List.map_cons, List.map_nil, hdv, hsv, hr]
  exact h w' h2 h3
end
end Go.Proofs.Ytboogadchjojkaa
