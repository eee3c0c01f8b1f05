/- Package bino, plain: how often a number is in a forest; what is under a number is not below it. -/
import Derived.Test.YtnigadnjppeckaaBino
namespace Go.Proofs.Ytnigadnjppeckaa.bino

def cF (z : Int) : F → Nat
  | .nil => 0
  | .node a k s => (if a.1 = z then 1 else 0) + cF z k + cF z s
def HF : F → Prop
  | .nil => True
  | .node a k s => (∀ y, 0 < cF y k → a.1 ≤ y) ∧ HF k ∧ HF s
/-- what is made of two forests -/
def Both (fa fb fr : F) : Prop := (∀ z, cF z fr = cF z fa + cF z fb) ∧ (HF fa → HF fb → HF fr)
theorem Both.l (f : F) : Both .nil f f := ⟨fun z => by simp [cF], fun _ h => h⟩
theorem Both.r (f : F) : Both f .nil f := ⟨fun z => by simp [cF], fun h _ => h⟩
theorem Both.less {a : Int × Int} {ka sa fb f1 : F} (h : Both sa fb f1) : Both (.node a ka sa) fb (.node a ka f1) :=
  ⟨fun z => by simp only [cF, h.1 z]; omega, fun ha hb => ⟨ha.1, ha.2.1, h.2 ha.2.2 hb⟩⟩
theorem Both.more {b : Int × Int} {kb sb fa f1 : F} (h : Both fa sb f1) : Both fa (.node b kb sb) (.node b kb f1) :=
  ⟨fun z => by simp only [cF, h.1 z]; omega, fun ha hb => ⟨hb.1, hb.2.1, h.2 ha hb.2.2⟩⟩
theorem cF_over (z : Int) (a : Int × Int) (k : F) (a' : Int × Int) (k' : F) : cF z (over a k a' k') = (if a.1 = z then 1 else 0) + cF z k + ((if a'.1 = z then 1 else 0) + cF z k') := by
  simp only [over, cF]
  omega
theorem HF_over {a : Int × Int} {k : F} {a' : Int × Int} {k' : F} (h : ∀ y, 0 < cF y k → a.1 ≤ y) (h' : ∀ y, 0 < cF y k' → a'.1 ≤ y) (hk : HF k) (hk' : HF k') (hle : a.1 ≤ a'.1) : HF (over a k a' k') := by
  refine ⟨fun y hy => ?_, ⟨h', hk', hk⟩, trivial⟩
  simp only [cF] at hy
  have h1 := h y
  have h2 := h' y
  by_cases e : a'.1 = y
  · omega
  · rw [if_neg e] at hy
    by_cases e2 : 0 < cF y k
    · exact h1 e2
    · have := h2 (by omega)
      omega
theorem cF_lk (z : Int) (a : Int × Int) (k : F) (a' : Int × Int) (k' : F) : cF z (lk a k a' k') = (if a.1 = z then 1 else 0) + cF z k + ((if a'.1 = z then 1 else 0) + cF z k') := by
  unfold lk
  split
  · rw [cF_over]; omega
  · rw [cF_over]
theorem HF_lk {a : Int × Int} {k : F} {a' : Int × Int} {k' : F} (h : ∀ y, 0 < cF y k → a.1 ≤ y) (h' : ∀ y, 0 < cF y k' → a'.1 ≤ y) (hk : HF k) (hk' : HF k') : HF (lk a k a' k') := by
  unfold lk
  split
  · exact HF_over h' h hk' hk (by omega)
  · exact HF_over h h' hk hk' (by omega)
theorem Both.both {a b : Int × Int} {ka sa kb sb f1 fr : F} (h1 : Both sa sb f1) (h2 : Both (lk a ka b kb) f1 fr) : Both (.node a ka sa) (.node b kb sb) fr :=
  ⟨fun z => by rw [h2.1 z, cF_lk, h1.1 z]; simp only [cF]; omega, fun ha hb => h2.2 (HF_lk ha.1 hb.1 ha.2.1 hb.2.1) (h1.2 ha.2.2 hb.2.2)⟩
theorem cF_one (z x : Int) (r : Int) : cF z (.node (x, r) .nil .nil) = if x = z then 1 else 0 := by simp [cF]
theorem HF_one (x r : Int) : HF (.node (x, r) .nil .nil) := ⟨fun y hy => by simp [cF] at hy, trivial, trivial⟩
end Go.Proofs.Ytnigadnjppeckaa.bino
