/-
  A strings.Builder of the call's own, whose bytes are a list: what its methods do. No condition but a bound on the length. (soft)
-/
import Derived.Test.YtbnacoakjhhndaaGreatAid
import Derived.Test.YtbnacoakjhhndaaGreatShelf
namespace Go.Proofs.YtbnacoakjhhndaaGreat
open Go.RowKit

/-- Block b is a Builder that holds these bytes. -/
def Bld (b : Nat) (l : List UInt8) (w : World) : Prop := Lib.IsBuilderF 64 5 b b (Lib.byteCells l) w ∧ b ≤ w.heap.size
/-- What a method of the Builder in block b leaves. -/
structure BKept (b : Nat) (w w' : World) : Prop where
  bel : Below b w w'
  oth : Lib.OthersKept 5 (some b) w w'
theorem BKept.trans {b : Nat} {w w' w'' : World} (h : BKept b w w') (k : BKept b w' w'') : BKept b w w'' := ⟨h.bel.trans k.bel, h.oth.trans k.oth⟩
theorem bld_new (w : World) : Bld w.heap.size [] (w.alloc (.cells #[.pointer none, .slice none 0 0] 64)) :=
  ⟨Lib.IsBuilderF.of (Lib.fresh_isBuilder 64 5 w), by simp⟩
theorem bld_alloc {b : Nat} {l : List UInt8} {w : World} (h : Bld b l w) (o : Obj) : Bld b l (w.alloc o) := ⟨h.1.alloc o, by have := h.2; simp; omega⟩
theorem bld_it {b bb p : Nat} {l : List UInt8} {s : ByteArray} {w : World} (h : Bld b l w) (hit : It w bb s p) (q : Nat) : Bld b l (itW w bb s q) :=
  ⟨h.1.iterAt hit q, by have := h.2; have := (it_gr w bb s q).size; omega⟩
theorem bldAt_gr {T e : TypeId} {B b : Nat} {p : Value} {bs : List Value} {w w' : World} (h : Lib.BuilderAtF T e B b p bs w) (g : Gr w w') : Lib.BuilderAtF T e B b p bs w' := by
  obtain ⟨hB, v, hb, hown, hne⟩ := h
  refine ⟨hB, v, gr_blk g hb (by simp), ⟨hown.1, ?_⟩, hne⟩
  rcases hown.2 with hn | ⟨g', cap, cur, fz, hv, hbg, hg, rest⟩
  · exact .inl hn
  · exact .inr ⟨g', cap, cur, fz, hv, hbg, gr_blk g hg (by simp), rest⟩
/-- A builder stays one while nothing old turns. -/
theorem bld_gr {b : Nat} {l : List UInt8} {w w' : World} (h : Bld b l w) (g : Gr w w') : Bld b l w' :=
  ⟨h.1.elim (fun x => .inl (bldAt_gr x g)) (fun x => .inr (bldAt_gr x g)), Nat.le_trans h.2 g.size⟩
theorem kept_it {b bb p : Nat} {s : ByteArray} {w w' : World} (h : BKept b w w') (hit : It w bb s p) (hb : bb ≠ b) : It w' bb s p := h.oth.iter hit hb
theorem writeByte_any (b : Nat) (l : List UInt8) (x : UInt8) (c : Int) (hc : c = (x.toNat : Nat)) (w : World) (h : Bld b l w) (hl : l.length ≤ 100000000000000) :
    Calls Tryz.prog 19 #[.pointer (some ⟨b, 0, none⟩), .int .u8 c] w fun e w' => e = .returned .nilIface ∧ Bld b (l ++ [x]) w' ∧ BKept b w w' := by
  subst hc
  refine (Tryz.Builder_WriteByte_k b b _ _ w h.1 (by rw [Lib.byteCells_length]; omega) h.2).mono ?_
  rintro e w' ⟨rfl, h1, h2, h3⟩
  refine ⟨rfl, ⟨Or.inr ?_, Nat.le_trans h.2 h2.size⟩, ⟨h2, h3⟩⟩
  rw [Lib.byteCells_append]
  exact h1
theorem writeString_any (b : Nat) (l m : List UInt8) (w : World) (h : Bld b l w) (hl : l.length ≤ 100000000000000) (hm : m.length ≤ 10000000000000) :
    Calls Tryz.prog 20 #[.pointer (some ⟨b, 0, none⟩), .string (txt m)] w fun e w' => e = .returned (.tuple #[.int .i64 m.length, .nilIface]) ∧ Bld b (l ++ m) w' ∧ BKept b w w' := by
  refine (Tryz.Builder_WriteString_k b b _ _ w h.1 (by rw [Lib.byteCells_length, txt_size]; omega) h.2).mono ?_
  rintro e w' ⟨rfl, h1, h2, h3⟩
  refine ⟨by rw [txt_size], ⟨Or.inr ?_, Nat.le_trans h.2 h2.size⟩, ⟨h2, h3⟩⟩
  rw [Lib.byteCells_append]
  exact h1
theorem builderString_any (b : Nat) (l : List UInt8) (w : World) (h : Bld b l w) :
    Calls Tryz.prog 25 #[.pointer (some ⟨b, 0, none⟩)] w fun e w' => e = .returned (.string (txt l)) ∧ Bld b l w' ∧ BKept b w w' := by
  refine (Tryz.Builder_String_any_k b b l w h.1 h.2).mono ?_
  rintro e w' ⟨rfl, h1, h2, h3⟩
  exact ⟨rfl, ⟨h1, Nat.le_trans h.2 h2.size⟩, ⟨h2, h3⟩⟩
end Go.Proofs.YtbnacoakjhhndaaGreat
