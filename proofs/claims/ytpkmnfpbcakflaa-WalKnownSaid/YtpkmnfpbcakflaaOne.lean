/- Plain laws of a disk of one file. No condition; no walk in sight. -/
import Derived.Test.YtpkmnfpbcakflaaCrash
namespace Go.Proofs.Ytpkmnfpbcakflaa

/-- a disk's files: none, or one -/
def oneF (s : ByteArray) : Option (List Int) → Fs
  | none => .map []
  | some c => .map [(strKey s, .held c)]
section
variable (s : ByteArray)
theorem self_key : (strKey s).sameKey (strKey s) = true := WideAt.sameKey_self (isKey s)
theorem one_put (o : Option (List Int)) (c : List Int) : putF (oneF s o) s c = oneF s (some c) := by
  cases o <;> simp [oneF, putF, DataW.put, DataW.insert, self_key]
theorem one_del (o : Option (List Int)) : delF (oneF s o) s = oneF s none := by
  cases o <;> simp [oneF, delF, DataW.del, self_key]
theorem one_get (o : Option (List Int)) : getF (oneF s o) s = o.getD [] := by
  cases o <;> simp [oneF, getF, DataW.atKey, self_key]
theorem one_has (o : Option (List Int)) : hasF (oneF s o) s = o.isSome := by
  cases o <;> simp [oneF, hasF, Maps.has, self_key]
theorem one_total (o : Option (List Int)) : total (oneF s o) = (o.getD []).length := by
  cases o <;> simp [oneF, total, totL, lenOf]
theorem one_size (o : Option (List Int)) : Maps.size (oneF s o) ≤ 1 := by
  cases o <;> simp [oneF, Maps.size]
/-- appends to the one file -/
def apps (l : List (List Int)) : List Dd := l.map fun b => ⟨0, s, ⟨#[]⟩, b, 0⟩
def grown (o : Option (List Int)) (l : List (List Int)) : Option (List Int) := if l = [] then o else some (o.getD [] ++ l.flatten)
theorem does_app (o : Option (List Int)) (b : List Int) : doesM (oneF s o) ⟨0, s, ⟨#[]⟩, b, 0⟩ = oneF s (some (o.getD [] ++ b)) := by
  unfold doesM
  rw [if_pos rfl]
  simp only
  rw [one_get, one_put]
theorem grown_cons (o : Option (List Int)) (b : List Int) (l : List (List Int)) : grown (some (o.getD [] ++ b)) l = grown o (b :: l) := by
  cases l <;> simp [grown]
theorem replay_apps : ∀ (l : List (List Int)) (o : Option (List Int)), replay (oneF s o) (apps s l) = oneF s (grown o l)
  | [], o => by simp [replay, apps, grown]
  | b :: l, o => by
    have ih := replay_apps l (some (o.getD [] ++ b))
    rw [grown_cons] at ih
    rw [← ih]
    simp only [replay, apps, List.map_cons, List.foldl_cons, does_app]
theorem ok_apps (hs : s.size ≤ maxLen) : ∀ (l : List (List Int)) (o : Option (List Int)), (o.getD []).length + l.flatten.length ≤ 1000000000 → OkAll (oneF s o) (apps s l)
  | [], _, _ => trivial
  | b :: l, o, h => by
    simp only [List.flatten_cons, List.length_append] at h
    refine ⟨⟨hs, (Nat.zero_le _ : 0 ≤ maxLen), by have := one_size s o; omega, .inl ⟨rfl, by rw [one_get]; simp only; omega⟩⟩, ?_⟩
    show OkAll (doesM (oneF s o) ⟨0, s, ⟨#[]⟩, b, 0⟩) (apps s l)
    rw [does_app]
    exact ok_apps hs l _ (by simp only [Option.getD_some, List.length_append]; omega)
theorem apps_take (l : List (List Int)) (k : Nat) : (apps s l).take k = apps s (l.take k) := by simp [apps, List.map_take]
theorem apps_at (l : List (List Int)) (k : Nat) : (apps s l)[k]? = (l[k]?).map fun b => ⟨0, s, ⟨#[]⟩, b, 0⟩ := by simp [apps]
theorem apps_snoc (l : List (List Int)) (b : List Int) : apps s l ++ [⟨0, s, ⟨#[]⟩, b, 0⟩] = apps s (l ++ [b]) := by simp [apps]
theorem grown_snoc (o : Option (List Int)) (l : List (List Int)) (b : List Int) : some ((grown o l).getD [] ++ b) = grown o (l ++ [b]) := by
  cases l <;> simp [grown]
theorem grown_bytes (o : Option (List Int)) (l : List (List Int)) : (grown o l).getD [] = o.getD [] ++ l.flatten := by
  cases l <;> simp [grown]

/-- a disk of one file: o was synced, the bytes of l were appended since -/
def oneDk (room : Int) (o : Option (List Int)) (l : List (List Int)) (fuse : Int) (down : Bool) : Dk := ⟨room, oneF s o, oneF s (grown o l), apps s l, fuse, down⟩
theorem empty_one (room : Int) : emptyDk room = oneDk s room none [] (-1) false := rfl
theorem appended_one (room : Int) (o : Option (List Int)) (l : List (List Int)) (fuse : Int) (down : Bool) (b : List Int) : appended (oneDk s room o l fuse down) s b = oneDk s room o (l ++ [b]) fuse down := by
  unfold appended oneDk
  simp only [one_get, one_put, grown_snoc, apps_snoc]
/-- what a crash leaves of a disk of one file -/
def cutO (o : Option (List Int)) (l : List (List Int)) (k : Nat) (torn : Int) : Option (List Int) :=
  match l[k]? with
  | some b => if 0 < b.length ∧ 0 < pickV torn b.length then some ((grown o (l.take k)).getD [] ++ b.take (pickV torn b.length).toNat) else grown o (l.take k)
  | none => grown o (l.take k)
theorem crashD_one (room : Int) (o : Option (List Int)) (l : List (List Int)) (fuse : Int) (down : Bool) (k : Nat) (torn : Int) : crashD (oneDk s room o l fuse down) k torn = oneF s (cutO o l k torn) := by
  unfold crashD cutO oneDk
  simp only [apps_at, apps_take, replay_apps]
  cases l[k]? with
  | none => rfl
  | some b =>
    simp only [Option.map_some, true_and]
    split
    · rw [does_app]
    · rfl
theorem crashed_one (room : Int) (o : Option (List Int)) (l : List (List Int)) (fuse : Int) (down : Bool) (k : Nat) (torn : Int) : crashed (oneDk s room o l fuse down) k torn = oneDk s room (cutO o l k torn) [] (-1) false := by
  unfold crashed
  rw [crashD_one]
  simp [oneDk, grown, apps]
end
end Go.Proofs.Ytpkmnfpbcakflaa
