/- Plain laws of a disk of two files, a snapshot and a new one, and disk's calls on it. No condition. -/
import Derived.Test.YtpkmnfpbcakflaaSt
import Derived.Test.YtpkmnfpbcakflaaRename
import Derived.Test.YtpkmnfpbcakflaaTotal
namespace Go.Proofs.Ytpkmnfpbcakflaa
open Go.ChangeShapes Go.WideShapes Go.ChangeAt Go.RowKit

abbrev nameS : ByteArray := ⟨#[115, 110, 97, 112]⟩
abbrev nameN : ByteArray := ⟨#[115, 110, 97, 112, 46, 110, 101, 119]⟩
def optE (s : ByteArray) : Option (List Int) → List (Lit × Fs)
  | none => []
  | some c => [(strKey s, .held c)]
/-- the snapshot, the new file -/
def twoF (o n : Option (List Int)) : Fs := .map (optE nameS o ++ optE nameN n)
theorem kSS : (strKey nameS).sameKey (strKey nameS) = true := by decide
theorem kNN : (strKey nameN).sameKey (strKey nameN) = true := by decide
theorem kSN : (strKey nameS).sameKey (strKey nameN) = false := by decide
theorem kNS : (strKey nameN).sameKey (strKey nameS) = false := by decide
theorem bSN : (strKey nameS).before (strKey nameN) = true := by decide
theorem bNS : (strKey nameN).before (strKey nameS) = false := by decide
section
variable (o n : Option (List Int))
theorem two_put_n (c : List Int) : putF (twoF o n) nameN c = twoF o (some c) := by
  cases o <;> cases n <;> simp [twoF, optE, putF, DataW.put, DataW.insert, kNN, kSN, bNS]
theorem two_put_s (c : List Int) : putF (twoF o n) nameS c = twoF (some c) n := by
  cases o <;> cases n <;> simp [twoF, optE, putF, DataW.put, DataW.insert, kSS, kNS, bSN]
theorem two_del_n : delF (twoF o n) nameN = twoF o none := by
  cases o <;> cases n <;> simp [twoF, optE, delF, DataW.del, kNN, kSN]
theorem two_get_n : getF (twoF o n) nameN = n.getD [] := by
  cases o <;> cases n <;> simp [twoF, optE, getF, DataW.atKey, kNN, kSN]
theorem two_get_s : getF (twoF o n) nameS = o.getD [] := by
  cases o <;> cases n <;> simp [twoF, optE, getF, DataW.atKey, kSS, kNS]
theorem two_has_n : hasF (twoF o n) nameN = n.isSome := by
  cases o <;> cases n <;> simp [twoF, optE, hasF, Maps.has, kNN, kSN]
theorem two_has_s : hasF (twoF o n) nameS = o.isSome := by
  cases o <;> cases n <;> simp [twoF, optE, hasF, Maps.has, kSS, kNS]
theorem two_total : total (twoF o n) = (o.getD []).length + (n.getD []).length := by
  cases o <;> cases n <;> simp [twoF, optE, total, totL, lenOf]
theorem two_size : Maps.size (twoF o n) ≤ 2 := by
  cases o <;> cases n <;> simp [twoF, optE, Maps.size]
end

/-- settled -/
def sOn (o n : Option (List Int)) (f : Int) (dn : Bool) : Dk := ⟨8388608, twoF o n, twoF o n, [], f, dn⟩
/-- the new file is appended, and pending -/
def sAp (o : Option (List Int)) (fr : List Int) (f : Int) (dn : Bool) : Dk := ⟨8388608, twoF o none, twoF o (some fr), [⟨0, nameN, ⟨#[]⟩, fr, 0⟩], f, dn⟩
/-- the new file is renamed, and that is pending -/
def sRn (o : Option (List Int)) (fr : List Int) (f : Int) (dn : Bool) : Dk := ⟨8388608, twoF o (some fr), twoF (some fr) none, [⟨2, nameN, nameS, [], 0⟩], f, dn⟩
/-- the new file is removed, and that is pending -/
def sRm (o : Option (List Int)) (fr : List Int) (f : Int) (dn : Bool) : Dk := ⟨8388608, twoF o (some fr), twoF o none, [⟨3, nameN, ⟨#[]⟩, [], 0⟩], f, dn⟩

/-- a disk whose blocks are none of X's, and X's blocks as they were in wa -/
def SX (X : Nat → Prop) (wa w : World) (p : Nat) (d : Dk) : Prop := DiskOwn X w p d ∧ Keep X wa w
theorem SX.keep {X : Nat → Prop} {wa w w' : World} {p : Nat} {d' : Dk} (hK0 : Keep X wa w) (hD : DiskOwn X w' p d') (hK : Keep X w w') : SX X wa w' p d' := ⟨hD, hK0.trans hK⟩
theorem keep_more {X : Nat → Prop} {w w1 w' : World} (hB : Below w.heap.size w w1) (hK : Keep (More X w w1) w1 w') : Keep X w w' :=
  (Mod.of_below hB).trans' (S := fun k => ¬ X k) hK fun _ _ hk e => hk (.inl e)
theorem SX.keepMore {X : Nat → Prop} {wa w w1 w' : World} {p : Nat} {d' : Dk} (hK0 : Keep X wa w) (hA : Below w.heap.size w w1) (hD : DiskOwn (More X w w1) w' p d') (hK : Keep (More X w w1) w1 w') : SX X wa w' p d' :=
  ⟨hD.fewer fun _ h => .inl h, hK0.trans (keep_more hA hK)⟩
theorem SX.below {X : Nat → Prop} {wa w w' : World} {p : Nat} {d : Dk} (h : SX X wa w p d) (hB : Below w.heap.size w w') : SX X wa w' p d := ⟨h.1.below hB, h.2.trans (Keep.of_below hB)⟩
theorem SX.wider {Y : Nat → Prop} {w : World} {p : Nat} {d : Dk} (hD : DiskOwn Y w p d) : SX Y w w p d := ⟨hD, Mod.refl _ _⟩

theorem counts_go (d : Dk) (hd : d.down = false) (h : d.fuse ≠ 0) : countsM d = (true, { d with fuse := nf d.fuse }) := by
  unfold countsM nf
  simp [hd, h]
theorem counts_no (d : Dk) (h : d.fuse = 0) : countsM d = (false, { d with down := true }) := by
  unfold countsM
  simp [h]

section
variable {X : Nat → Prop} {wa w w1 : World} {p : Nat} {o n : Option (List Int)} {fr : List Int} {f : Int}
theorem SX.append2 {a : Option Addr} {c : Nat} (h : SX X wa w p (sOn o none f false)) (hB : Below w.heap.size w w1) (hR : Row w1 5 1 (.slice a fr.length c) fr.length (byteCells fr)) (hfr : ∀ k, (Value.slice a fr.length c).ownBlock = some k → w.heap.size ≤ k) (hby : ∀ x ∈ fr, 0 ≤ x ∧ x < 256)
    (hf : f ≠ 0) (hf0 : -1 ≤ f) (hf1 : f ≤ 1000000000000) (hfit : (o.getD []).length + fr.length ≤ 8388608) :
    Calls Try.prog 18 #[.pointer (some ⟨p, 0, none⟩), .string nameN, .slice a fr.length c] w1 fun e w' => e = .returned (.int .i64 0) ∧ SX X wa w' p (sAp o fr (nf f) false) := by
  have hc := counts_go (sOn o none f false) rfl hf
  have ht : total (sOn o none f false).now = (o.getD []).length := by show total (twoF o none) = _; rw [two_total]; simp
  have hz : Maps.size (sOn o none f false).now ≤ 2 := two_size _ _
  have hg : (getF (sOn o none f false).now nameN).length = 0 := by show (getF (twoF o none) nameN).length = _; rw [two_get_n]; rfl
  refine (append_ok _ p (sOn o none f false) nameN w1 a fr.length c fr (h.1.more hB) (by decide) hf0 hf1 (by rw [hc]) (by decide) (by rw [ht]; omega) (Nat.zero_le _) (by omega) (by rw [hg]; omega) (show (8388608 : Int) ≤ _ by omega) rfl ?_ (Src.of_row hR (byteCells_one _)) (fun _ k hk => .inr ⟨hfr k hk, hR.lt hk⟩) hby).mono fun e w' ⟨he, hD, hK⟩ => ⟨he, ?_⟩
  · rintro (e | e)
    · rw [ht] at e
      have e2 : (8388608 : Int) < ((o.getD []).length : Nat) + (fr.length : Nat) := e
      omega
    · omega
  · rw [hc] at hD
    have e : appended ({ sOn o none f false with fuse := nf f }) nameN fr = sAp o fr (nf f) false := by
      unfold appended sOn sAp
      simp only [two_get_n, two_put_n]; rfl
    have hD2 : DiskOwn (More X w w1) w' p (sAp o fr (nf f) false) := e ▸ hD
    exact SX.keepMore h.2 hB hD2 hK
theorem SX.stopA {d : Dk} (ay : Option Addr) (m cy : Nat) (h : SX X wa w p d) (hf : d.fuse = 0) :
    Calls Try.prog 18 #[.pointer (some ⟨p, 0, none⟩), .string nameN, .slice ay m cy] w fun e w' => e = .returned (.int .i64 3) ∧ SX X wa w' p { d with down := true } := by
  have hc := counts_no d hf
  refine (append_down _ p d nameN w ay m cy h.1 (by omega) (by omega) (by rw [hc])).mono fun e w' ⟨he, hD, hK⟩ => ⟨he, ?_⟩
  rw [hc] at hD
  exact SX.keep h.2 hD hK
theorem SX.sync2 {d : Dk} (h : SX X wa w p d) (hd : d.down = false) (hf : d.fuse ≠ 0) (hf0 : -1 ≤ d.fuse) (hf1 : d.fuse ≤ 1000000000000) (hz : Maps.size d.now ≤ 1000000) :
    Calls Try.prog 21 #[.pointer (some ⟨p, 0, none⟩)] w fun e w' => e = .returned (.int .i64 0) ∧ SX X wa w' p { d with syn := d.now, pend := [], fuse := nf d.fuse } := by
  have hc := counts_go d hd hf
  refine (sync_own _ p d w h.1 hf0 hf1 hz).mono fun e w' ⟨he, hD, hK⟩ => ?_
  unfold syncM at he hD
  rw [hc] at he hD
  exact ⟨he, SX.keep h.2 hD hK⟩
theorem SX.stopS {d : Dk} (h : SX X wa w p d) (hf : d.fuse = 0) (hz : Maps.size d.now ≤ 1000000) :
    Calls Try.prog 21 #[.pointer (some ⟨p, 0, none⟩)] w fun e w' => e = .returned (.int .i64 3) ∧ SX X wa w' p { d with down := true } := by
  have hc := counts_no d hf
  refine (sync_own _ p d w h.1 (by omega) (by omega) hz).mono fun e w' ⟨he, hD, hK⟩ => ?_
  unfold syncM at he hD
  rw [hc] at he hD
  exact ⟨he, SX.keep h.2 hD hK⟩
theorem SX.rename2 (h : SX X wa w p (sOn o (some fr) f false)) (hf : f ≠ 0) (hf0 : -1 ≤ f) (hf1 : f ≤ 1000000000000) :
    Calls Try.prog 57 #[.pointer (some ⟨p, 0, none⟩), .string nameN, .string nameS] w fun e w' => e = .returned (.int .i64 0) ∧ SX X wa w' p (sRn o fr (nf f) false) := by
  have hc := counts_go (sOn o (some fr) f false) rfl hf
  refine (rename_own _ p _ nameN nameS w h.1 (by decide) (by decide) hf0 hf1 (Nat.zero_le _) (by have := two_size o (some fr); simp only [sOn]; omega)).mono fun e w' ⟨he, hD, hK⟩ => ?_
  unfold renameM at he hD
  rw [hc] at he hD
  have hn : namedB nameS = true := by decide
  have hh : hasF (sOn o (some fr) f false).now nameN = true := by show hasF (twoF o (some fr)) nameN = true; rw [two_has_n]; rfl
  simp only [hn, hh, if_true] at he hD
  have e : renamed ({ sOn o (some fr) f false with fuse := nf f }) nameN nameS = sRn o fr (nf f) false := by
    unfold renamed sOn sRn
    simp only [two_get_n, two_del_n, two_put_s]; rfl
  have hD2 : DiskOwn X w' p (sRn o fr (nf f) false) := e ▸ hD
  exact ⟨he, SX.keep h.2 hD2 hK⟩
theorem SX.stopR {d : Dk} (h : SX X wa w p d) (hf : d.fuse = 0) (hpd : d.pend.length ≤ 1000000) (hz : Maps.size d.now ≤ 1000000) :
    Calls Try.prog 57 #[.pointer (some ⟨p, 0, none⟩), .string nameN, .string nameS] w fun e w' => e = .returned (.int .i64 3) ∧ SX X wa w' p { d with down := true } := by
  have hc := counts_no d hf
  refine (rename_own _ p d nameN nameS w h.1 (by decide) (by decide) (by omega) (by omega) hpd hz).mono fun e w' ⟨he, hD, hK⟩ => ?_
  unfold renameM at he hD
  rw [hc] at he hD
  exact ⟨he, SX.keep h.2 hD hK⟩
theorem SX.remove2 (h : SX X wa w p (sOn o (some fr) (-1) false)) :
    Calls Try.prog 25 #[.pointer (some ⟨p, 0, none⟩), .string nameN] w fun e w' => e = .returned (.int .i64 0) ∧ SX X wa w' p (sRm o fr (-1) false) := by
  have hc := counts_go (sOn o (some fr) (-1) false) rfl (show (-1 : Int) ≠ 0 by decide)
  refine (remove_own _ p _ nameN w h.1 (by decide) (show (-1 : Int) ≤ -1 by decide) (show (-1 : Int) ≤ 1000000000000 by decide) (Nat.zero_le _)).mono fun e w' ⟨he, hD, hK⟩ => ?_
  unfold removeM at he hD
  rw [hc] at he hD
  have hh : hasF (sOn o (some fr) (-1) false).now nameN = true := by show hasF (twoF o (some fr)) nameN = true; rw [two_has_n]; rfl
  simp only [hh, if_true] at he hD
  have e : removed ({ sOn o (some fr) (-1) false with fuse := nf (-1) }) nameN = sRm o fr (-1) false := by
    unfold removed sOn sRm
    simp only [two_del_n]; rfl
  have hD2 : DiskOwn X w' p (sRm o fr (-1) false) := e ▸ hD
  exact ⟨he, SX.keep h.2 hD2 hK⟩
/-- Read of a file that is not there, or of a disk that is down -/
theorem SX.readNo {d : Dk} (s : ByteArray) (hs : s.size ≤ maxLen) (h : SX X wa w p d) (hn : (hasF d.now s && !d.down) = false) (hl : (getF d.now s).length ≤ 70368744177664) :
    Calls Try.prog 20 #[.pointer (some ⟨p, 0, none⟩), .string s] w fun e w' => e = .returned (.tuple #[.slice none 0 0, .bool false]) ∧ SX X wa w' p d ∧ Below w.heap.size w w' := by
  refine (read_own _ p d s w h.1 hs hl).mono fun e w' hr => ?_
  rw [hn] at hr
  obtain ⟨he, hB⟩ : ReadNo w w' e := hr
  exact ⟨he, h.below hB, hB⟩
def ReadGot (X : Nat → Prop) (wa w w' : World) (p : Nat) (d : Dk) (e : Ending) (b : List Int) : Prop :=
  ∃ a c, e = .returned (.tuple #[.slice a b.length c, .bool true]) ∧ b.length ≤ c ∧ Row w' 5 1 (.slice a b.length c) b.length (byteCells b) ∧ SX X wa w' p d ∧ Below w.heap.size w w'
theorem SX.readYes {d : Dk} (s : ByteArray) (hs : s.size ≤ maxLen) (h : SX X wa w p d) (hn : (hasF d.now s && !d.down) = true) (hl : (getF d.now s).length ≤ 70368744177664) :
    Calls Try.prog 20 #[.pointer (some ⟨p, 0, none⟩), .string s] w fun e w' => ReadGot X wa w w' p d e (getF d.now s) := by
  refine (read_own _ p d s w h.1 hs hl).mono fun e w' hr => ?_
  rw [hn] at hr
  obtain ⟨v, rfl, R, -, -, hB⟩ : ReadYes w w' e _ := hr
  obtain ⟨a, c, rfl, hc, -⟩ := R.form
  exact ⟨a, c, rfl, hc, R, h.below hB, hB⟩
theorem SX.fuse2 {d : Dk} (m : Int) (h : SX X wa w p d) : Calls Try.prog 23 #[.pointer (some ⟨p, 0, none⟩), .int .i64 m] w fun e w' => e = .returned (.tuple #[]) ∧ SX X wa w' p { d with fuse := fuseV m } :=
  (fuse_own _ p d m w h.1).mono fun _ _ ⟨he, hD, hK⟩ => ⟨he, SX.keep h.2 hD hK⟩
theorem SX.crash2 {d : Dk} (keep torn : Int) (h : SX X wa w p d) (hok : OkAll d.syn d.pend) (hpd : d.pend.length ≤ 1000000) (hszs : ∀ k, Maps.size (crashD d k torn) ≤ 1000000) :
    Calls Try.prog 19 #[.pointer (some ⟨p, 0, none⟩), .int .i64 keep, .int .i64 torn] w fun e w' => ∃ k : Nat, k ≤ d.pend.length ∧ pickV keep (d.pend.length + 1) = k ∧ e = .returned (.int .i64 k) ∧ SX X wa w' p (crashed d k torn) := by
  obtain ⟨k, hk, hkl⟩ := pickV_at keep (d.pend.length + 1) (by omega)
  exact (crash_own _ p d keep torn w h.1 hok hpd hszs k hk (by omega)).mono fun _ _ ⟨he, hD, hK⟩ => ⟨k, by omega, hk, he, SX.keep h.2 hD hK⟩
end
end Go.Proofs.Ytpkmnfpbcakflaa
