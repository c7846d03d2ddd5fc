/- Which facts a walk opens its goal by. -/
import Derived.Test.YtbibihbkkflidaaGxFam
import Derived.Test.YtbibihbkkflidaaGxM
import Derived.Test.YtbibihbkkflidaaGxEq
namespace Gx
open Go
attribute [push_cast] Nat.add_zero Nat.zero_add ne_eq not_false_eq_true and_self and_true true_and Nat.le_refl or_true true_or Int.toNat_natCast Bool.false_eq_true Nat.sub_zero List.cons_append List.nil_append cond_true cond_false Bool.true_and Bool.false_and Bool.and_true Bool.and_false Bool.or_true Bool.or_false Bool.true_or Bool.false_or decide_true decide_false Bool.not_true Bool.not_false List.length_map Nat.mul_one wrap_i64 ite_blk_ne ite_blk_eq gx_get_low gx_set_low un_msl_low un_mptr_low un_mmap_low List.length_cons List.length_nil List.getElem?_cons_zero List.getElem?_cons_succ List.set_cons_zero List.set_cons_succ List.map_cons List.map_nil List.take_succ_cons List.take_zero List.take_nil Nat.add_eq_zero_iff Nat.add_lt_add_iff_right Nat.add_lt_add_iff_left Nat.lt_add_one Nat.lt_add_left_iff_pos List.length_append lt_add_lit lt_lit_add optq_mapIdx replicate_at range_at List.length_range
end Gx
