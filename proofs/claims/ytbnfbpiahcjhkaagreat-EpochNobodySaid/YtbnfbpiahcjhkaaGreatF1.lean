/- Printed by a program of our own: the program's functions as the abstract machine has them. -/
import Derived.Test.YtbnfbpiahcjhkaaGreatAm29
set_option maxRecDepth 100000
namespace Go.Proofs.YtbnfbpiahcjhkaaGreat
open Go Go.Am

def F3 : AFun := ⟨123, [.tmp 4], (.seq (.ops [⟨(some 2), .box (.t 0), none⟩,
  ⟨(some 4), .mv (.c (.bool false)), none⟩])
 (.seq (.seq (.ops [⟨(some 15), .build [(.int .i64 (.ofNat 0)), (.int .i64 (.ofNat 0)), (.int .i64 (.ofNat 0)), (.map none), (.map none), (.slice none 0 0), (.int .i64 (.ofNat 0)), (.int .i64 (.ofNat 0)), (.map none), (.map none), (.slice none 0 0), (.slice none 0 0), (.map none)] [], none⟩,
  ⟨(some 16), .box (.t 15), none⟩,
  ⟨(some 17), .mkSlice 2 [(.pointer none), (.pointer none)] [(0, 1, (.c (.pointer none))), (1, 1, (.t 16))], none⟩,
  ⟨(some 18), .lenS (.t 17), none⟩,
  ⟨(some 19), .mv (.c (.int .i64 (.ofNat 0))), none⟩])
 (.block 0 (.loop [1, 2, 17, 18, 19] (.seq (.ops [⟨(some 20), .bin .lss (.t 19) (.t 18), none⟩])
 (.seq (.cond (.t 20) .skip
 (.exit 0))
 (.seq (.block 1 (.seq (.ops [⟨(some 21), .idxAddrSl 1 (.t 17) (.t 19), none⟩,
  ⟨(some 22), .load1 (.t 21), none⟩,
  ⟨(some 6), .mv (.t 22), none⟩])
 (.seq (.ops [⟨(some 24), .mv (.t 6), none⟩,
  ⟨(some 25), .loadN 12 (.t 2), none⟩,
  ⟨(some 26), .call (.val (.c (.func (.func 4) #[] #[]))) [(.t 24), (.t 25)], none⟩,
  ⟨(some 23), .mv (.t 26), none⟩,
  ⟨(some 27), .extract 0 (.t 23), none⟩,
  ⟨(some 28), .extract 1 (.t 23), none⟩,
  ⟨(some 7), .alloc [(.int .i64 (.ofNat 0)), (.int .i64 (.ofNat 0)), (.int .i64 (.ofNat 0)), (.int .u32 (.ofNat 0)), (.int .i64 (.ofNat 0)), (.int .i64 (.ofNat 0)), (.slice none 0 0), (.int .i64 (.ofNat 0))], none⟩,
  ⟨none, .store 8 (.t 7) (.t 27), none⟩,
  ⟨(some 8), .mv (.t 28), none⟩])
 (.seq (.ops [⟨(some 30), .mv (.t 6), none⟩,
  ⟨(some 31), .call (.val (.c (.func (.func 5) #[] #[]))) [(.t 30), (.c (.string ⟨#[97]⟩))], none⟩,
  ⟨(some 29), .mv (.t 31), none⟩,
  ⟨(some 32), .extract 0 (.t 29), none⟩,
  ⟨(some 33), .extract 1 (.t 29), none⟩,
  ⟨(some 9), .alloc [(.int .i64 (.ofNat 0)), (.int .i64 (.ofNat 0)), (.int .u32 (.ofNat 0)), (.int .i64 (.ofNat 0)), (.int .i64 (.ofNat 0)), (.slice none 0 0)], none⟩,
  ⟨none, .store 6 (.t 9) (.t 32), none⟩,
  ⟨(some 10), .mv (.t 33), none⟩])
 (.seq (.ops [⟨(some 35), .mv (.t 6), none⟩,
  ⟨(some 36), .mv (.t 1), none⟩,
  ⟨(some 37), .call (.val (.c (.func (.func 6) #[] #[]))) [(.t 35), (.t 36)], none⟩,
  ⟨(some 34), .mv (.t 37), none⟩,
  ⟨(some 38), .extract 0 (.t 34), none⟩,
  ⟨(some 39), .extract 1 (.t 34), none⟩,
  ⟨(some 11), .alloc [(.int .i64 (.ofNat 0)), (.int .i64 (.ofNat 0)), (.int .u32 (.ofNat 0)), (.int .i64 (.ofNat 0)), (.int .i64 (.ofNat 0)), (.slice none 0 0)], none⟩,
  ⟨none, .store 6 (.t 11) (.t 38), none⟩,
  ⟨(some 12), .mv (.t 39), none⟩])
 (.seq (.ops [⟨(some 40), .mv (.t 8), none⟩,
  ⟨(some 41), .bin .neq (.t 40) (.c (.int .i64 (.ofNat 2))), none⟩,
  ⟨(some 42), .mv (.t 41), none⟩,
  ⟨(some 43), .loadN 8 (.t 7), (some (42, false))⟩,
  ⟨(some 44), .build [(.int .i64 (.ofNat 0)), (.int .i64 (.ofNat 0)), (.int .i64 (.ofNat 0)), (.int .u32 (.ofNat 0)), (.int .i64 (.ofNat 0)), (.int .i64 (.ofNat 0)), (.slice none 0 0), (.int .i64 (.ofNat 0))] [], (some (42, false))⟩,
  ⟨(some 45), .call (.val (.c (.func (.func 7) #[] #[]))) [(.t 43), (.t 44)], (some (42, false))⟩,
  ⟨(some 46), .un .not (.t 45), (some (42, false))⟩,
  ⟨(some 47), .pick (.t 42) (.c (.bool true)) (.t 46), none⟩,
  ⟨(some 48), .mv (.t 47), none⟩,
  ⟨(some 49), .mv (.t 10), (some (48, false))⟩,
  ⟨(some 50), .pick (.t 48) (.c (.bool true)) (.t 49), none⟩,
  ⟨(some 51), .mv (.t 50), none⟩,
  ⟨(some 52), .mv (.t 12), (some (51, false))⟩,
  ⟨(some 53), .pick (.t 51) (.c (.bool true)) (.t 52), none⟩,
  ⟨(some 54), .mv (.t 53), none⟩,
  ⟨(some 55), .mv (.t 6), (some (54, false))⟩,
  ⟨(some 56), .call (.val (.c (.func (.func 8) #[] #[]))) [(.t 55)], (some (54, false))⟩,
  ⟨(some 57), .mv (.t 6), (some (54, false))⟩,
  ⟨(some 58), .call (.val (.c (.func (.func 9) #[] #[]))) [(.t 57)], (some (54, false))⟩,
  ⟨(some 59), .bin .add (.t 56) (.t 58), (some (54, false))⟩,
  ⟨(some 60), .mv (.t 6), (some (54, false))⟩,
  ⟨(some 61), .mv (.t 1), (some (54, false))⟩,
  ⟨(some 62), .call (.val (.c (.func (.func 10) #[] #[]))) [(.t 60), (.t 61)], (some (54, false))⟩,
  ⟨(some 63), .lenS (.t 62), (some (54, false))⟩,
  ⟨(some 64), .bin .add (.t 59) (.t 63), (some (54, false))⟩,
  ⟨(some 65), .mv (.t 6), (some (54, false))⟩,
  ⟨(some 66), .call (.val (.c (.func (.func 11) #[] #[]))) [(.t 65)], (some (54, false))⟩,
  ⟨(some 67), .lenS (.t 66), (some (54, false))⟩,
  ⟨(some 68), .bin .add (.t 64) (.t 67), (some (54, false))⟩,
  ⟨(some 69), .mv (.t 6), (some (54, false))⟩,
  ⟨(some 70), .call (.val (.c (.func (.func 12) #[] #[]))) [(.t 69)], (some (54, false))⟩,
  ⟨(some 71), .lenS (.t 70), (some (54, false))⟩,
  ⟨(some 72), .bin .add (.t 68) (.t 71), (some (54, false))⟩,
  ⟨(some 73), .mv (.t 6), (some (54, false))⟩,
  ⟨(some 74), .call (.val (.c (.func (.func 13) #[] #[]))) [(.t 73)], (some (54, false))⟩,
  ⟨(some 75), .lenS (.t 74), (some (54, false))⟩,
  ⟨(some 76), .bin .add (.t 72) (.t 75), (some (54, false))⟩,
  ⟨(some 77), .mv (.t 6), (some (54, false))⟩,
  ⟨(some 78), .call (.val (.c (.func (.func 14) #[] #[]))) [(.t 77)], (some (54, false))⟩,
  ⟨(some 79), .lenS (.t 78), (some (54, false))⟩,
  ⟨(some 80), .bin .add (.t 76) (.t 79), (some (54, false))⟩,
  ⟨(some 81), .mv (.t 6), (some (54, false))⟩,
  ⟨(some 82), .mv (.t 1), (some (54, false))⟩,
  ⟨(some 83), .call (.val (.c (.func (.func 15) #[] #[]))) [(.t 81), (.t 82)], (some (54, false))⟩,
  ⟨(some 84), .lenS (.t 83), (some (54, false))⟩,
  ⟨(some 85), .bin .add (.t 80) (.t 84), (some (54, false))⟩,
  ⟨(some 86), .bin .neq (.t 85) (.c (.int .i64 (.ofNat 0))), (some (54, false))⟩,
  ⟨(some 87), .pick (.t 54) (.c (.bool true)) (.t 86), none⟩,
  ⟨(some 88), .mv (.t 87), none⟩,
  ⟨(some 89), .mv (.t 6), (some (88, false))⟩,
  ⟨(some 90), .mv (.t 1), (some (88, false))⟩,
  ⟨(some 91), .call (.val (.c (.func (.func 16) #[] #[]))) [(.t 89), (.t 90)], (some (88, false))⟩,
  ⟨(some 92), .pick (.t 88) (.c (.bool true)) (.t 91), none⟩,
  ⟨(some 93), .mv (.t 92), none⟩,
  ⟨(some 94), .mv (.t 6), (some (93, false))⟩,
  ⟨(some 95), .call (.val (.c (.func (.func 17) #[] #[]))) [(.t 94)], (some (93, false))⟩,
  ⟨(some 96), .eqP .ptr true (.t 95) (.c (.pointer none)), (some (93, false))⟩,
  ⟨(some 97), .pick (.t 93) (.c (.bool true)) (.t 96), none⟩,
  ⟨(some 98), .mv (.t 97), none⟩,
  ⟨(some 99), .mv (.t 6), (some (98, false))⟩,
  ⟨(some 100), .mv (.t 6), (some (98, false))⟩,
  ⟨(some 101), .call (.val (.c (.func (.func 18) #[] #[]))) [(.t 99), (.t 100)], (some (98, false))⟩,
  ⟨(some 102), .pick (.t 98) (.c (.bool true)) (.t 101), none⟩,
  ⟨(some 103), .mv (.t 102), none⟩,
  ⟨(some 104), .mv (.t 6), (some (103, false))⟩,
  ⟨(some 105), .call (.val (.c (.func (.func 19) #[] #[]))) [(.t 104)], (some (103, false))⟩,
  ⟨(some 106), .build [(.int .i64 (.ofNat 0)), (.int .i64 (.ofNat 0))] [], (some (103, false))⟩,
  ⟨(some 107), .eqS true [.i, .i] (.t 105) (.t 106), (some (103, false))⟩,
  ⟨(some 108), .pick (.t 103) (.c (.bool true)) (.t 107), none⟩])
 (.cond (.t 108) (.seq (.ops [⟨(some 4), .mv (.c (.bool false)), none⟩])
 .ret)
 .skip)))))))
 (.ops [⟨(some 109), .bin .add (.t 19) (.c (.int .i64 (.ofNat 1))), none⟩,
  ⟨(some 19), .mv (.t 109), none⟩])))))))
 (.seq (.ops [⟨(some 111), .build [(.int .i64 (.ofNat 0)), (.int .i64 (.ofNat 0))] [(0, 1, (.c (.int .i64 (.ofNat 1))))], none⟩,
  ⟨(some 112), .build [(.int .i64 (.ofNat 0)), (.int .i64 (.ofNat 0)), (.int .i64 (.ofNat 0)), (.int .i64 (.ofNat 0)), (.int .i64 (.ofNat 0))] [(0, 1, (.c (.int .i64 (.ofNat 1)))), (1, 1, (.c (.int .i64 (.ofNat 1)))), (3, 2, (.t 111))], none⟩,
  ⟨(some 113), .call (.val (.c (.func (.func 20) #[] #[]))) [(.t 112)], none⟩,
  ⟨(some 110), .mv (.t 113), none⟩,
  ⟨(some 114), .extract 0 (.t 110), none⟩,
  ⟨(some 115), .extract 1 (.t 110), none⟩,
  ⟨(some 13), .mv (.t 114), none⟩,
  ⟨(some 14), .mv (.t 115), none⟩])
 (.seq (.ops [⟨(some 116), .mv (.t 14), none⟩,
  ⟨(some 117), .bin .eql (.t 116) (.c (.int .i64 (.ofNat 0))), none⟩,
  ⟨(some 118), .mv (.t 117), none⟩,
  ⟨(some 119), .mv (.t 13), (some (118, true))⟩,
  ⟨(some 120), .mv (.t 13), (some (118, true))⟩,
  ⟨(some 121), .call (.val (.c (.func (.func 18) #[] #[]))) [(.t 119), (.t 120)], (some (118, true))⟩,
  ⟨(some 122), .pick (.t 118) (.t 121) (.c (.bool false)), none⟩,
  ⟨(some 4), .mv (.t 122), none⟩])
 .ret))))⟩

def F4 : AFun := ⟨53, [.many 8 4, .tmp 5], (.seq (.ops [⟨(some 2), .box (.t 0), none⟩,
  ⟨(some 3), .box (.t 1), none⟩,
  ⟨(some 4), .alloc [(.int .i64 (.ofNat 0)), (.int .i64 (.ofNat 0)), (.int .i64 (.ofNat 0)), (.int .u32 (.ofNat 0)), (.int .i64 (.ofNat 0)), (.int .i64 (.ofNat 0)), (.slice none 0 0), (.int .i64 (.ofNat 0))], none⟩,
  ⟨(some 5), .mv (.c (.int .i64 (.ofNat 0))), none⟩])
 (.seq (.seq (.ops [⟨(some 10), .load1 (.t 2), none⟩,
  ⟨(some 11), .call (.val (.c (.func (.func 21) #[] #[]))) [(.t 10)], none⟩])
 (.cond (.t 11) (.seq (.ops [⟨(some 12), .build [(.int .i64 (.ofNat 0)), (.int .i64 (.ofNat 0)), (.int .i64 (.ofNat 0)), (.int .u32 (.ofNat 0)), (.int .i64 (.ofNat 0)), (.int .i64 (.ofNat 0)), (.slice none 0 0), (.int .i64 (.ofNat 0))] [], none⟩,
  ⟨none, .store 8 (.t 4) (.t 12), none⟩,
  ⟨(some 5), .mv (.c (.int .i64 (.ofNat 2))), none⟩])
 .ret)
 .skip))
 (.seq .stuck
 (.seq (.seq (.draw [⟨(some 14), .addOff 0 (.t 3), none⟩,
  ⟨(some 15), .load1 (.t 14), none⟩,
  ⟨(some 16), .bin .gtr (.t 15) (.c (.int .i64 (.ofNat 0))), none⟩,
  ⟨(some 17), .mv (.t 16), none⟩,
  ⟨(some 18), .load1 (.t 2), (some (17, true))⟩,
  ⟨(some 19), .nilCheck (.t 18), (some (17, true))⟩,
  ⟨(some 20), .addOff 12 (.t 19), (some (17, true))⟩,
  ⟨(some 21), .load1 (.t 20), (some (17, true))⟩,
  ⟨(some 22), .addOff 0 (.t 3), (some (17, true))⟩,
  ⟨(some 23), .load1 (.t 22), (some (17, true))⟩,
  ⟨(some 24), .lookup (.bool false) false (.prim .i) (.t 21) (.t 23), (some (17, true))⟩,
  ⟨(some 25), .pick (.t 17) (.t 24) (.c (.bool false)), none⟩] (.light 0 (.light 1 (.light 2 (.light 3 (.light 4 (.light 5 (.light 6 (.light 7 (.light 8 (.light 9 (.light 10 (.light 11 .done)))))))))))))
 (.cond (.t 25) (.seq (.ops [⟨(some 26), .call (.val (.c (.func (.func 23) #[] #[]))) [(.c (.int .i64 (.ofNat 5)))], none⟩,
  ⟨none, .store 8 (.t 4) (.t 26), none⟩,
  ⟨(some 5), .mv (.c (.int .i64 (.ofNat 0))), none⟩])
 .ret)
 .skip))
 (.seq (.seq (.ops [⟨(some 27), .addOff 0 (.t 3), none⟩,
  ⟨(some 28), .load1 (.t 27), none⟩,
  ⟨(some 29), .bin .gtr (.t 28) (.c (.int .i64 (.ofNat 0))), none⟩])
 (.cond (.t 29) (.draw [⟨(some 30), .load1 (.t 2), none⟩,
  ⟨(some 31), .nilCheck (.t 30), none⟩,
  ⟨(some 32), .addOff 12 (.t 31), none⟩,
  ⟨(some 33), .load1 (.t 32), none⟩,
  ⟨(some 34), .addOff 0 (.t 3), none⟩,
  ⟨(some 35), .load1 (.t 34), none⟩,
  ⟨none, .mapSet (.prim .i) (.t 33) (.t 35) (.c (.bool true)), none⟩] (.light 0 (.light 1 (.light 2 (.light 3 (.light 4 (.light 5 (.alt 6 [] .done .stop))))))))
 .skip))
 (.seq (.ops [⟨(some 36), .call (.val (.c (.func (.func 24) #[] #[]))) [], none⟩,
  ⟨(some 6), .alloc [(.int .i64 (.ofNat 0)), (.int .i64 (.ofNat 0)), (.int .i64 (.ofNat 0)), (.int .u32 (.ofNat 0)), (.int .i64 (.ofNat 0)), (.int .i64 (.ofNat 0)), (.slice none 0 0), (.int .i64 (.ofNat 0))], none⟩,
  ⟨none, .store 8 (.t 6) (.t 36), none⟩])
 (.seq (.ops [⟨(some 37), .call (.val (.c (.func (.func 25) #[] #[]))) [], none⟩,
  ⟨(some 7), .mv (.t 37), none⟩])
 (.seq (.seq (.ops [⟨(some 39), .mv (.t 7), none⟩,
  ⟨(some 40), .addOff 1 (.t 3), none⟩,
  ⟨(some 41), .load1 (.t 40), none⟩,
  ⟨(some 42), .lookup .nilFunc true (.prim .i) (.t 39) (.t 41), none⟩,
  ⟨(some 38), .mv (.t 42), none⟩,
  ⟨(some 43), .extract 0 (.t 38), none⟩,
  ⟨(some 44), .extract 1 (.t 38), none⟩,
  ⟨(some 8), .mv (.t 43), none⟩,
  ⟨(some 9), .mv (.t 44), none⟩])
 (.seq (.ops [⟨(some 45), .mv (.t 9), none⟩])
 (.cond (.t 45) (.ops [⟨(some 46), .mv (.t 8), none⟩,
  ⟨(some 47), .load1 (.t 2), none⟩,
  ⟨(some 48), .loadN 12 (.t 3), none⟩,
  ⟨(some 49), .call (.val (.t 46)) [(.t 47), (.t 48)], none⟩,
  ⟨none, .store 8 (.t 6) (.t 49), none⟩])
 .skip)))
 (.seq (.ops [⟨(some 50), .load1 (.t 2), none⟩,
  ⟨(some 51), .call (.val (.c (.func (.func 26) #[] #[]))) [(.t 50)], none⟩])
 (.seq (.ops [⟨(some 52), .loadN 8 (.t 6), none⟩,
  ⟨none, .store 8 (.t 4) (.t 52), none⟩,
  ⟨(some 5), .mv (.c (.int .i64 (.ofNat 0))), none⟩])
 .ret))))))))))⟩

def F5 : AFun := ⟨29, [.many 6 4, .tmp 5], (.seq (.ops [⟨(some 4), .alloc [(.int .i64 (.ofNat 0)), (.int .i64 (.ofNat 0)), (.int .u32 (.ofNat 0)), (.int .i64 (.ofNat 0)), (.int .i64 (.ofNat 0)), (.slice none 0 0)], none⟩,
  ⟨(some 5), .mv (.c (.bool false)), none⟩])
 (.seq (.seq (.ops [⟨(some 8), .mv (.t 0), none⟩,
  ⟨(some 9), .call (.val (.c (.func (.func 21) #[] #[]))) [(.t 8)], none⟩])
 (.cond (.t 9) (.seq (.ops [⟨(some 10), .build [(.int .i64 (.ofNat 0)), (.int .i64 (.ofNat 0)), (.int .u32 (.ofNat 0)), (.int .i64 (.ofNat 0)), (.int .i64 (.ofNat 0)), (.slice none 0 0)] [], none⟩,
  ⟨none, .store 6 (.t 4) (.t 10), none⟩,
  ⟨(some 5), .mv (.c (.bool false)), none⟩])
 .ret)
 .skip))
 (.seq (.ops [⟨(some 12), .mv (.t 0), none⟩,
  ⟨(some 13), .nilCheck (.t 12), none⟩,
  ⟨(some 14), .addOff 8 (.t 13), none⟩,
  ⟨(some 15), .load1 (.t 14), none⟩,
  ⟨(some 16), .mv (.t 1), none⟩,
  ⟨(some 17), .lookup (.agg #[(.int .i64 (.ofNat 0)), (.int .i64 (.ofNat 0)), (.int .u32 (.ofNat 0)), (.int .i64 (.ofNat 0)), (.int .i64 (.ofNat 0)), (.slice none 0 0), (.bool false), (.slice none 0 0)]) true (.prim .s) (.t 15) (.t 16), none⟩,
  ⟨(some 11), .mv (.t 17), none⟩,
  ⟨(some 18), .extract 0 (.t 11), none⟩,
  ⟨(some 19), .extract 1 (.t 11), none⟩,
  ⟨(some 6), .alloc [(.int .i64 (.ofNat 0)), (.int .i64 (.ofNat 0)), (.int .u32 (.ofNat 0)), (.int .i64 (.ofNat 0)), (.int .i64 (.ofNat 0)), (.slice none 0 0), (.bool false), (.slice none 0 0)], none⟩,
  ⟨none, .store 8 (.t 6) (.t 18), none⟩,
  ⟨(some 7), .mv (.t 19), none⟩])
 (.seq (.draw [⟨(some 20), .addOff 0 (.t 6), none⟩,
  ⟨(some 21), .loadN 6 (.t 20), none⟩,
  ⟨(some 22), .call (.val (.c (.func (.func 27) #[] #[]))) [(.t 21)], none⟩,
  ⟨(some 23), .mv (.t 7), none⟩,
  ⟨(some 24), .mv (.t 23), none⟩,
  ⟨(some 25), .addOff 6 (.t 6), (some (24, true))⟩,
  ⟨(some 26), .load1 (.t 25), (some (24, true))⟩,
  ⟨(some 27), .un .not (.t 26), (some (24, true))⟩,
  ⟨(some 28), .pick (.t 24) (.t 27) (.c (.bool false)), none⟩,
  ⟨none, .store 6 (.t 4) (.t 22), none⟩,
  ⟨(some 5), .mv (.t 28), none⟩] (.light 0 (.light 1 (.light 3 (.alt 2 [] (.light 4 (.light 5 (.light 6 (.light 7 (.light 8 (.alt 9 [6] (.light 10 .done) .stop)))))) .stop)))))
 .ret))))⟩

def F6 : AFun := ⟨20, [.many 6 4, .tmp 5], (.seq (.ops [⟨(some 4), .alloc [(.int .i64 (.ofNat 0)), (.int .i64 (.ofNat 0)), (.int .u32 (.ofNat 0)), (.int .i64 (.ofNat 0)), (.int .i64 (.ofNat 0)), (.slice none 0 0)], none⟩,
  ⟨(some 5), .mv (.c (.bool false)), none⟩])
 (.seq (.seq (.ops [⟨(some 8), .mv (.t 0), none⟩,
  ⟨(some 9), .call (.val (.c (.func (.func 21) #[] #[]))) [(.t 8)], none⟩])
 (.cond (.t 9) (.seq (.ops [⟨(some 10), .build [(.int .i64 (.ofNat 0)), (.int .i64 (.ofNat 0)), (.int .u32 (.ofNat 0)), (.int .i64 (.ofNat 0)), (.int .i64 (.ofNat 0)), (.slice none 0 0)] [], none⟩,
  ⟨none, .store 6 (.t 4) (.t 10), none⟩,
  ⟨(some 5), .mv (.c (.bool false)), none⟩])
 .ret)
 .skip))
 (.seq (.ops [⟨(some 12), .mv (.t 0), none⟩,
  ⟨(some 13), .mv (.t 1), none⟩,
  ⟨(some 14), .call (.val (.c (.func (.func 28) #[] #[]))) [(.t 12), (.t 13)], none⟩,
  ⟨(some 11), .mv (.t 14), none⟩,
  ⟨(some 15), .extract 0 (.t 11), none⟩,
  ⟨(some 16), .extract 1 (.t 11), none⟩,
  ⟨(some 6), .alloc [(.int .i64 (.ofNat 0)), (.int .i64 (.ofNat 0)), (.int .u32 (.ofNat 0)), (.int .i64 (.ofNat 0)), (.int .i64 (.ofNat 0)), (.slice none 0 0)], none⟩,
  ⟨none, .store 6 (.t 6) (.t 15), none⟩,
  ⟨(some 7), .mv (.t 16), none⟩])
 (.seq (.ops [⟨(some 17), .loadN 6 (.t 6), none⟩,
  ⟨(some 18), .call (.val (.c (.func (.func 27) #[] #[]))) [(.t 17)], none⟩,
  ⟨(some 19), .mv (.t 7), none⟩,
  ⟨none, .store 6 (.t 4) (.t 18), none⟩,
  ⟨(some 5), .mv (.t 19), none⟩])
 .ret))))⟩

def F7 : AFun := ⟨24, [.tmp 4], (.seq (.ops [⟨(some 2), .box (.t 0), none⟩,
  ⟨(some 3), .box (.t 1), none⟩,
  ⟨(some 4), .mv (.c (.bool false)), none⟩])
 (.seq (.ops [⟨(some 5), .addOff 0 (.t 2), none⟩,
  ⟨(some 6), .load1 (.t 5), none⟩,
  ⟨(some 7), .addOff 0 (.t 3), none⟩,
  ⟨(some 8), .load1 (.t 7), none⟩,
  ⟨(some 9), .bin .eql (.t 6) (.t 8), none⟩,
  ⟨(some 10), .mv (.t 9), none⟩,
  ⟨(some 11), .addOff 7 (.t 2), (some (10, true))⟩,
  ⟨(some 12), .load1 (.t 11), (some (10, true))⟩,
  ⟨(some 13), .addOff 7 (.t 3), (some (10, true))⟩,
  ⟨(some 14), .load1 (.t 13), (some (10, true))⟩,
  ⟨(some 15), .bin .eql (.t 12) (.t 14), (some (10, true))⟩,
  ⟨(some 16), .pick (.t 10) (.t 15) (.c (.bool false)), none⟩,
  ⟨(some 17), .mv (.t 16), none⟩,
  ⟨(some 18), .addOff 1 (.t 2), (some (17, true))⟩,
  ⟨(some 19), .loadN 6 (.t 18), (some (17, true))⟩,
  ⟨(some 20), .addOff 1 (.t 3), (some (17, true))⟩,
  ⟨(some 21), .loadN 6 (.t 20), (some (17, true))⟩,
  ⟨(some 22), .call (.val (.c (.func (.func 29) #[] #[]))) [(.t 19), (.t 21)], (some (17, true))⟩,
  ⟨(some 23), .pick (.t 17) (.t 22) (.c (.bool false)), none⟩,
  ⟨(some 4), .mv (.t 23), none⟩])
 .ret))⟩

def F8 : AFun := ⟨9, [.tmp 2], (.seq (.ops [⟨(some 2), .mv (.c (.int .i64 (.ofNat 0))), none⟩])
 (.seq (.seq (.ops [⟨(some 3), .mv (.t 0), none⟩,
  ⟨(some 4), .call (.val (.c (.func (.func 21) #[] #[]))) [(.t 3)], none⟩])
 (.cond (.t 4) (.seq (.ops [⟨(some 2), .mv (.c (.int .i64 (.ofNat 0))), none⟩])
 .ret)
 .skip))
 (.seq (.ops [⟨(some 5), .mv (.t 0), none⟩,
  ⟨(some 6), .nilCheck (.t 5), none⟩,
  ⟨(some 7), .addOff 1 (.t 6), none⟩,
  ⟨(some 8), .load1 (.t 7), none⟩,
  ⟨(some 2), .mv (.t 8), none⟩])
 .ret)))⟩

def F9 : AFun := ⟨9, [.tmp 2], (.seq (.ops [⟨(some 2), .mv (.c (.int .i64 (.ofNat 0))), none⟩])
 (.seq (.seq (.ops [⟨(some 3), .mv (.t 0), none⟩,
  ⟨(some 4), .call (.val (.c (.func (.func 21) #[] #[]))) [(.t 3)], none⟩])
 (.cond (.t 4) (.seq (.ops [⟨(some 2), .mv (.c (.int .i64 (.ofNat 0))), none⟩])
 .ret)
 .skip))
 (.seq (.ops [⟨(some 5), .mv (.t 0), none⟩,
  ⟨(some 6), .nilCheck (.t 5), none⟩,
  ⟨(some 7), .addOff 2 (.t 6), none⟩,
  ⟨(some 8), .load1 (.t 7), none⟩,
  ⟨(some 2), .mv (.t 8), none⟩])
 .ret)))⟩

def F10 : AFun := ⟨29, [.tmp 4], (.seq (.ops [⟨(some 4), .mv (.c (.slice none 0 0)), none⟩])
 (.seq (.seq (.ops [⟨(some 8), .mv (.t 0), none⟩,
  ⟨(some 9), .call (.val (.c (.func (.func 21) #[] #[]))) [(.t 8)], none⟩])
 (.cond (.t 9) (.seq (.ops [⟨(some 4), .mv (.c (.slice none 0 0)), none⟩])
 .ret)
 .skip))
 (.seq (.ops [⟨(some 5), .mv (.c (.slice none 0 0)), none⟩])
 (.seq (.seq (.ops [⟨(some 10), .mv (.t 0), none⟩,
  ⟨(some 11), .nilCheck (.t 10), none⟩,
  ⟨(some 12), .addOff 5 (.t 11), none⟩,
  ⟨(some 13), .load1 (.t 12), none⟩,
  ⟨(some 14), .lenS (.t 13), none⟩,
  ⟨(some 15), .mv (.c (.int .i64 (.ofNat 0))), none⟩])
 (.block 0 (.loop [1, 5, 13, 14, 15] (.seq (.ops [⟨(some 16), .bin .lss (.t 15) (.t 14), none⟩])
 (.seq (.cond (.t 16) .skip
 (.exit 0))
 (.seq (.block 1 (.seq (.ops [⟨(some 17), .idxAddrSl 2 (.t 13) (.t 15), none⟩,
  ⟨(some 18), .loadN 2 (.t 17), none⟩,
  ⟨(some 7), .alloc [(.int .i64 (.ofNat 0)), (.slice none 0 0)], none⟩,
  ⟨none, .store 2 (.t 7) (.t 18), none⟩])
 (.seq (.ops [⟨(some 19), .addOff 0 (.t 7), none⟩,
  ⟨(some 20), .load1 (.t 19), none⟩,
  ⟨(some 21), .mv (.t 1), none⟩,
  ⟨(some 22), .mxI (.t 21) (.c (.int .i64 (.ofNat 1))), none⟩,
  ⟨(some 23), .bin .leq (.t 20) (.t 22), none⟩])
 (.cond (.t 23) (.ops [⟨(some 24), .addOff 1 (.t 7), none⟩,
  ⟨(some 25), .load1 (.t 24), none⟩,
  ⟨(some 5), .mv (.t 25), none⟩])
 .skip))))
 (.ops [⟨(some 26), .bin .add (.t 15) (.c (.int .i64 (.ofNat 1))), none⟩,
  ⟨(some 15), .mv (.t 26), none⟩])))))))
 (.seq (.ops [⟨(some 27), .mv (.t 5), none⟩,
  ⟨(some 28), .call (.val (.c (.func (.func 30) #[] #[]))) [(.t 27)], none⟩,
  ⟨(some 4), .mv (.t 28), none⟩])
 .ret)))))⟩

def F11 : AFun := ⟨11, [.tmp 2], (.seq (.ops [⟨(some 2), .mv (.c (.slice none 0 0)), none⟩])
 (.seq (.seq (.ops [⟨(some 3), .mv (.t 0), none⟩,
  ⟨(some 4), .call (.val (.c (.func (.func 21) #[] #[]))) [(.t 3)], none⟩])
 (.cond (.t 4) (.seq (.ops [⟨(some 2), .mv (.c (.slice none 0 0)), none⟩])
 .ret)
 .skip))
 (.seq (.ops [⟨(some 5), .mv (.t 0), none⟩,
  ⟨(some 6), .nilCheck (.t 5), none⟩,
  ⟨(some 7), .addOff 3 (.t 6), none⟩,
  ⟨(some 8), .load1 (.t 7), none⟩,
  ⟨(some 9), .call (.val (.c (.func (.func 32) #[] #[]))) [(.t 8)], none⟩,
  ⟨(some 10), .call (.val (.c (.func (.func 31) #[] #[]))) [(.t 9)], none⟩,
  ⟨(some 2), .mv (.t 10), none⟩])
 .ret)))⟩

def F12 : AFun := ⟨11, [.tmp 2], (.seq (.ops [⟨(some 2), .mv (.c (.slice none 0 0)), none⟩])
 (.seq (.seq (.ops [⟨(some 3), .mv (.t 0), none⟩,
  ⟨(some 4), .call (.val (.c (.func (.func 21) #[] #[]))) [(.t 3)], none⟩])
 (.cond (.t 4) (.seq (.ops [⟨(some 2), .mv (.c (.slice none 0 0)), none⟩])
 .ret)
 .skip))
 (.seq (.ops [⟨(some 5), .mv (.t 0), none⟩,
  ⟨(some 6), .nilCheck (.t 5), none⟩,
  ⟨(some 7), .addOff 9 (.t 6), none⟩,
  ⟨(some 8), .load1 (.t 7), none⟩,
  ⟨(some 9), .call (.val (.c (.func (.func 34) #[] #[]))) [(.t 8)], none⟩,
  ⟨(some 10), .call (.val (.c (.func (.func 33) #[] #[]))) [(.t 9)], none⟩,
  ⟨(some 2), .mv (.t 10), none⟩])
 .ret)))⟩

def F13 : AFun := ⟨10, [.tmp 2], (.seq (.ops [⟨(some 2), .mv (.c (.slice none 0 0)), none⟩])
 (.seq (.seq (.ops [⟨(some 3), .mv (.t 0), none⟩,
  ⟨(some 4), .call (.val (.c (.func (.func 21) #[] #[]))) [(.t 3)], none⟩])
 (.cond (.t 4) (.seq (.ops [⟨(some 2), .mv (.c (.slice none 0 0)), none⟩])
 .ret)
 .skip))
 (.seq (.ops [⟨(some 5), .mv (.t 0), none⟩,
  ⟨(some 6), .nilCheck (.t 5), none⟩,
  ⟨(some 7), .addOff 10 (.t 6), none⟩,
  ⟨(some 8), .load1 (.t 7), none⟩,
  ⟨(some 9), .call (.val (.c (.func (.func 35) #[] #[]))) [(.t 8)], none⟩,
  ⟨(some 2), .mv (.t 9), none⟩])
 .ret)))⟩

def F14 : AFun := ⟨29, [.tmp 2], (.seq (.ops [⟨(some 2), .mv (.c (.slice none 0 0)), none⟩])
 (.seq (.seq (.ops [⟨(some 5), .mv (.t 0), none⟩,
  ⟨(some 6), .call (.val (.c (.func (.func 21) #[] #[]))) [(.t 5)], none⟩])
 (.cond (.t 6) (.seq (.ops [⟨(some 2), .mv (.c (.slice none 0 0)), none⟩])
 .ret)
 .skip))
 (.seq (.ops [⟨(some 7), .mv (.t 0), none⟩,
  ⟨(some 8), .nilCheck (.t 7), none⟩,
  ⟨(some 9), .addOff 11 (.t 8), none⟩,
  ⟨(some 10), .load1 (.t 9), none⟩,
  ⟨(some 11), .call (.val (.c (.func (.func 36) #[] #[]))) [(.t 10)], none⟩,
  ⟨(some 3), .mv (.t 11), none⟩])
 (.seq (.seq (.ops [⟨(some 12), .mv (.t 3), none⟩,
  ⟨(some 13), .lenS (.t 12), none⟩,
  ⟨(some 14), .mv (.c (.int .i64 (.ofNat 0))), none⟩])
 (.block 0 (.loop [3, 13, 14] (.seq (.ops [⟨(some 15), .bin .lss (.t 14) (.t 13), none⟩])
 (.seq (.cond (.t 15) .skip
 (.exit 0))
 (.seq (.block 1 (.seq (.ops [⟨(some 16), .mv (.t 14), none⟩,
  ⟨(some 4), .mv (.t 16), none⟩])
 (.ops [⟨(some 17), .mv (.t 3), none⟩,
  ⟨(some 18), .mv (.t 4), none⟩,
  ⟨(some 19), .mv (.t 3), none⟩,
  ⟨(some 20), .mv (.t 4), none⟩,
  ⟨(some 21), .idxAddrSl 5 (.t 19) (.t 20), none⟩,
  ⟨(some 22), .addOff 4 (.t 21), none⟩,
  ⟨(some 23), .load1 (.t 22), none⟩,
  ⟨(some 24), .call (.val (.c (.func (.func 30) #[] #[]))) [(.t 23)], none⟩,
  ⟨(some 25), .idxAddrSl 5 (.t 17) (.t 18), none⟩,
  ⟨(some 26), .addOff 4 (.t 25), none⟩,
  ⟨none, .store 1 (.t 26) (.t 24), none⟩])))
 (.ops [⟨(some 27), .bin .add (.t 14) (.c (.int .i64 (.ofNat 1))), none⟩,
  ⟨(some 14), .mv (.t 27), none⟩])))))))
 (.seq (.ops [⟨(some 28), .mv (.t 3), none⟩,
  ⟨(some 2), .mv (.t 28), none⟩])
 .ret)))))⟩

def F15 : AFun := ⟨77, [.tmp 4], (.seq (.ops [⟨(some 3), .box (.t 1), none⟩,
  ⟨(some 4), .mv (.c (.slice none 0 0)), none⟩])
 (.seq (.seq (.ops [⟨(some 13), .mv (.t 0), none⟩,
  ⟨(some 14), .call (.val (.c (.func (.func 21) #[] #[]))) [(.t 13)], none⟩])
 (.cond (.t 14) (.seq (.ops [⟨(some 4), .mv (.c (.slice none 0 0)), none⟩])
 .ret)
 .skip))
 (.seq (.ops [⟨(some 15), .mkMap, none⟩,
  ⟨(some 5), .alloc [(.map none)], none⟩,
  ⟨none, .store 1 (.t 5) (.t 15), none⟩])
 (.seq (.ops [⟨(some 16), .mkFunc (.func 37) [] [(.t 3), (.t 5)], none⟩,
  ⟨(some 6), .mv (.t 16), none⟩])
 (.seq (.seq (.ops [⟨(some 17), .mv (.t 0), none⟩,
  ⟨(some 18), .nilCheck (.t 17), none⟩,
  ⟨(some 19), .addOff 9 (.t 18), none⟩,
  ⟨(some 20), .load1 (.t 19), none⟩,
  ⟨(some 21), .range (.t 20), none⟩])
 (.block 0 (.loop [0, 3, 5, 6, 21] (.seq (.ops [⟨(some 22), .next (.t 21), none⟩,
  ⟨(some 23), .extract 0 (.t 22), none⟩])
 (.seq (.cond (.t 23) .skip
 (.exit 0))
 (.block 1 (.seq (.ops [⟨(some 24), .entry (.t 21), none⟩,
  ⟨(some 25), .extract 0 (.t 24), none⟩,
  ⟨(some 26), .extract 1 (.t 24), none⟩,
  ⟨(some 7), .mv (.t 25), none⟩,
  ⟨(some 8), .mv (.t 26), none⟩])
 (.ops [⟨(some 27), .mv (.t 6), none⟩,
  ⟨(some 28), .mv (.t 7), none⟩,
  ⟨(some 29), .mv (.t 0), none⟩,
  ⟨(some 30), .nilCheck (.t 29), none⟩,
  ⟨(some 31), .addOff 8 (.t 30), none⟩,
  ⟨(some 32), .load1 (.t 31), none⟩,
  ⟨(some 33), .mv (.t 8), none⟩,
  ⟨(some 34), .lookup (.agg #[(.int .i64 (.ofNat 0)), (.int .i64 (.ofNat 0)), (.int .u32 (.ofNat 0)), (.int .i64 (.ofNat 0)), (.int .i64 (.ofNat 0)), (.slice none 0 0), (.bool false), (.slice none 0 0)]) false (.prim .s) (.t 32) (.t 33), none⟩,
  ⟨(some 35), .part (some 6) 0 (.t 34), none⟩,
  ⟨(some 36), .part none 5 (.t 35), none⟩,
  ⟨(some 37), .call (.val (.t 27)) [(.t 28), (.t 36)], none⟩]))))))))
 (.seq (.seq (.ops [⟨(some 38), .mv (.t 0), none⟩,
  ⟨(some 39), .nilCheck (.t 38), none⟩,
  ⟨(some 40), .addOff 11 (.t 39), none⟩,
  ⟨(some 41), .load1 (.t 40), none⟩,
  ⟨(some 42), .lenS (.t 41), none⟩,
  ⟨(some 43), .mv (.c (.int .i64 (.ofNat 0))), none⟩])
 (.block 2 (.loop [0, 3, 5, 6, 41, 42, 43] (.seq (.ops [⟨(some 44), .bin .lss (.t 43) (.t 42), none⟩])
 (.seq (.cond (.t 44) .skip
 (.exit 2))
 (.seq (.block 3 (.seq (.ops [⟨(some 45), .idxAddrSl 5 (.t 41) (.t 43), none⟩,
  ⟨(some 46), .loadN 5 (.t 45), none⟩,
  ⟨(some 10), .alloc [(.int .i64 (.ofNat 0)), (.int .i64 (.ofNat 0)), (.int .i64 (.ofNat 0)), (.int .i64 (.ofNat 0)), (.slice none 0 0)], none⟩,
  ⟨none, .store 5 (.t 10) (.t 46), none⟩])
 (.ops [⟨(some 47), .mv (.t 6), none⟩,
  ⟨(some 48), .addOff 1 (.t 10), none⟩,
  ⟨(some 49), .load1 (.t 48), none⟩,
  ⟨(some 50), .addOff 4 (.t 10), none⟩,
  ⟨(some 51), .load1 (.t 50), none⟩,
  ⟨(some 52), .call (.val (.t 47)) [(.t 49), (.t 51)], none⟩])))
 (.ops [⟨(some 53), .bin .add (.t 43) (.c (.int .i64 (.ofNat 1))), none⟩,
  ⟨(some 43), .mv (.t 53), none⟩])))))))
 (.seq (.seq (.ops [⟨(some 54), .mv (.t 0), none⟩,
  ⟨(some 55), .nilCheck (.t 54), none⟩,
  ⟨(some 56), .addOff 10 (.t 55), none⟩,
  ⟨(some 57), .load1 (.t 56), none⟩,
  ⟨(some 58), .lenS (.t 57), none⟩,
  ⟨(some 59), .mv (.c (.int .i64 (.ofNat 0))), none⟩])
 (.block 4 (.loop [3, 5, 57, 58, 59] (.seq (.ops [⟨(some 60), .bin .lss (.t 59) (.t 58), none⟩])
 (.seq (.cond (.t 60) .skip
 (.exit 4))
 (.seq (.block 5 (.seq (.ops [⟨(some 61), .idxAddrSl 3 (.t 57) (.t 59), none⟩,
  ⟨(some 62), .loadN 3 (.t 61), none⟩,
  ⟨(some 12), .alloc [(.int .i64 (.ofNat 0)), (.int .i64 (.ofNat 0)), (.int .i64 (.ofNat 0))], none⟩,
  ⟨none, .store 3 (.t 12) (.t 62), none⟩])
 (.seq (.ops [⟨(some 63), .addOff 2 (.t 12), none⟩,
  ⟨(some 64), .load1 (.t 63), none⟩,
  ⟨(some 65), .load1 (.t 3), none⟩,
  ⟨(some 66), .bin .eql (.t 64) (.t 65), none⟩])
 (.cond (.t 66) (.ops [⟨(some 67), .load1 (.t 5), none⟩,
  ⟨(some 68), .addOff 0 (.t 12), none⟩,
  ⟨(some 69), .load1 (.t 68), none⟩,
  ⟨(some 70), .addOff 1 (.t 12), none⟩,
  ⟨(some 71), .load1 (.t 70), none⟩,
  ⟨(some 72), .build [(.int .i64 (.ofNat 0)), (.int .i64 (.ofNat 0))] [(0, 1, (.t 69)), (1, 1, (.t 71))], none⟩,
  ⟨none, .mapSet (.flat [.i, .i]) (.t 67) (.t 72) (.c (.bool true)), none⟩])
 .skip))))
 (.ops [⟨(some 73), .bin .add (.t 59) (.c (.int .i64 (.ofNat 1))), none⟩,
  ⟨(some 59), .mv (.t 73), none⟩])))))))
 (.seq (.ops [⟨(some 74), .load1 (.t 5), none⟩,
  ⟨(some 75), .call (.val (.c (.func (.func 39) #[] #[]))) [(.t 74)], none⟩,
  ⟨(some 76), .call (.val (.c (.func (.func 38) #[] #[]))) [(.t 75), (.c (.func (.func 40) #[] #[]))], none⟩,
  ⟨(some 4), .mv (.t 76), none⟩])
 .ret))))))))⟩

def F16 : AFun := ⟨16, [.tmp 4], (.seq (.ops [⟨(some 4), .mv (.c (.bool false)), none⟩])
 (.seq (.ops [⟨(some 5), .mv (.t 0), none⟩,
  ⟨(some 6), .call (.val (.c (.func (.func 21) #[] #[]))) [(.t 5)], none⟩,
  ⟨(some 7), .un .not (.t 6), none⟩,
  ⟨(some 8), .mv (.t 7), none⟩,
  ⟨(some 9), .mv (.t 0), (some (8, true))⟩,
  ⟨(some 10), .nilCheck (.t 9), (some (8, true))⟩,
  ⟨(some 11), .addOff 4 (.t 10), (some (8, true))⟩,
  ⟨(some 12), .load1 (.t 11), (some (8, true))⟩,
  ⟨(some 13), .mv (.t 1), (some (8, true))⟩,
  ⟨(some 14), .lookup (.bool false) false (.prim .i) (.t 12) (.t 13), (some (8, true))⟩,
  ⟨(some 15), .pick (.t 8) (.t 14) (.c (.bool false)), none⟩,
  ⟨(some 4), .mv (.t 15), none⟩])
 .ret))⟩

def F17 : AFun := ⟨71, [.tmp 2], (.seq (.ops [⟨(some 2), .mv (.c (.pointer none)), none⟩])
 (.seq (.seq (.ops [⟨(some 6), .mv (.t 0), none⟩,
  ⟨(some 7), .call (.val (.c (.func (.func 21) #[] #[]))) [(.t 6)], none⟩])
 (.cond (.t 7) (.seq (.ops [⟨(some 2), .mv (.c (.pointer none)), none⟩])
 .ret)
 .skip))
 (.seq (.ops [⟨(some 8), .mv (.t 0), none⟩,
  ⟨(some 9), .nilCheck (.t 8), none⟩,
  ⟨(some 10), .loadN 13 (.t 9), none⟩,
  ⟨(some 3), .alloc [(.int .i64 (.ofNat 0)), (.int .i64 (.ofNat 0)), (.int .i64 (.ofNat 0)), (.map none), (.map none), (.slice none 0 0), (.int .i64 (.ofNat 0)), (.int .i64 (.ofNat 0)), (.map none), (.map none), (.slice none 0 0), (.slice none 0 0), (.map none)], none⟩,
  ⟨none, .store 13 (.t 3) (.t 10), none⟩])
 (.seq (.draw [⟨(some 11), .mv (.t 0), none⟩,
  ⟨(some 12), .nilCheck (.t 11), none⟩,
  ⟨(some 13), .addOff 3 (.t 12), none⟩,
  ⟨(some 14), .load1 (.t 13), none⟩,
  ⟨(some 15), .call (.val (.c (.func (.func 43) #[] #[]))) [(.t 14)], none⟩,
  ⟨(some 16), .mv (.t 0), none⟩,
  ⟨(some 17), .nilCheck (.t 16), none⟩,
  ⟨(some 18), .addOff 4 (.t 17), none⟩,
  ⟨(some 19), .load1 (.t 18), none⟩,
  ⟨(some 20), .call (.val (.c (.func (.func 43) #[] #[]))) [(.t 19)], none⟩,
  ⟨(some 21), .mv (.t 0), none⟩,
  ⟨(some 22), .nilCheck (.t 21), none⟩,
  ⟨(some 23), .addOff 9 (.t 22), none⟩,
  ⟨(some 24), .load1 (.t 23), none⟩,
  ⟨(some 25), .call (.val (.c (.func (.func 44) #[] #[]))) [(.t 24)], none⟩,
  ⟨(some 26), .mv (.t 0), none⟩,
  ⟨(some 27), .nilCheck (.t 26), none⟩,
  ⟨(some 28), .addOff 12 (.t 27), none⟩,
  ⟨(some 29), .load1 (.t 28), none⟩,
  ⟨(some 30), .call (.val (.c (.func (.func 43) #[] #[]))) [(.t 29)], none⟩,
  ⟨(some 31), .addOff 3 (.t 3), none⟩,
  ⟨none, .store 1 (.t 31) (.t 15), none⟩,
  ⟨(some 32), .addOff 4 (.t 3), none⟩,
  ⟨none, .store 1 (.t 32) (.t 20), none⟩,
  ⟨(some 33), .addOff 9 (.t 3), none⟩,
  ⟨none, .store 1 (.t 33) (.t 25), none⟩,
  ⟨(some 34), .addOff 12 (.t 3), none⟩,
  ⟨none, .store 1 (.t 34) (.t 30), none⟩] (.light 0 (.light 1 (.light 2 (.light 3 (.light 5 (.light 6 (.light 7 (.light 8 (.light 10 (.light 11 (.light 12 (.light 13 (.light 15 (.light 16 (.light 17 (.light 18 (.alt 4 [18, 13, 8] (.alt 9 [18, 13] (.alt 14 [18] (.alt 19 [] (.light 20 (.alt 21 [] (.light 22 (.alt 23 [] (.light 24 (.alt 25 [] (.light 26 (.alt 27 [] .done .stop)) .stop)) .stop)) .stop)) .stop) .stop) .stop) .stop))))))))))))))))))
 (.seq (.ops [⟨(some 35), .mv (.t 0), none⟩,
  ⟨(some 36), .call (.val (.c (.func (.func 13) #[] #[]))) [(.t 35)], none⟩,
  ⟨(some 37), .mv (.t 0), none⟩,
  ⟨(some 38), .call (.val (.c (.func (.func 14) #[] #[]))) [(.t 37)], none⟩,
  ⟨(some 39), .addOff 10 (.t 3), none⟩,
  ⟨none, .store 1 (.t 39) (.t 36), none⟩,
  ⟨(some 40), .addOff 11 (.t 3), none⟩,
  ⟨none, .store 1 (.t 40) (.t 38), none⟩])
 (.seq (.ops [⟨(some 41), .mv (.t 0), none⟩,
  ⟨(some 42), .nilCheck (.t 41), none⟩,
  ⟨(some 43), .addOff 5 (.t 42), none⟩,
  ⟨(some 44), .load1 (.t 43), none⟩,
  ⟨(some 45), .call (.val (.c (.func (.func 45) #[] #[]))) [(.t 44)], none⟩,
  ⟨(some 46), .addOff 5 (.t 3), none⟩,
  ⟨none, .store 1 (.t 46) (.t 45), none⟩])
 (.seq (.ops [⟨(some 47), .mkMap, none⟩,
  ⟨(some 48), .addOff 8 (.t 3), none⟩,
  ⟨none, .store 1 (.t 48) (.t 47), none⟩])
 (.seq (.seq (.ops [⟨(some 49), .mv (.t 0), none⟩,
  ⟨(some 50), .nilCheck (.t 49), none⟩,
  ⟨(some 51), .addOff 8 (.t 50), none⟩,
  ⟨(some 52), .load1 (.t 51), none⟩,
  ⟨(some 53), .range (.t 52), none⟩])
 (.block 0 (.loop [3, 53] (.seq (.ops [⟨(some 54), .next (.t 53), none⟩,
  ⟨(some 55), .extract 0 (.t 54), none⟩])
 (.seq (.cond (.t 55) .skip
 (.exit 0))
 (.block 1 (.seq (.ops [⟨(some 56), .entry (.t 53), none⟩,
  ⟨(some 57), .extract 0 (.t 56), none⟩,
  ⟨(some 58), .extract 1 (.t 56), none⟩,
  ⟨(some 5), .alloc [(.int .i64 (.ofNat 0)), (.int .i64 (.ofNat 0)), (.int .u32 (.ofNat 0)), (.int .i64 (.ofNat 0)), (.int .i64 (.ofNat 0)), (.slice none 0 0), (.bool false), (.slice none 0 0)], none⟩,
  ⟨(some 4), .mv (.t 57), none⟩,
  ⟨none, .store 8 (.t 5) (.t 58), none⟩])
 (.seq (.draw [⟨(some 59), .addOff 0 (.t 5), none⟩,
  ⟨(some 60), .loadN 6 (.t 59), none⟩,
  ⟨(some 61), .call (.val (.c (.func (.func 27) #[] #[]))) [(.t 60)], none⟩,
  ⟨(some 62), .addOff 7 (.t 5), none⟩,
  ⟨(some 63), .load1 (.t 62), none⟩,
  ⟨(some 64), .call (.val (.c (.func (.func 30) #[] #[]))) [(.t 63)], none⟩,
  ⟨(some 65), .addOff 0 (.t 5), none⟩,
  ⟨none, .store 6 (.t 65) (.t 61), none⟩,
  ⟨(some 66), .addOff 7 (.t 5), none⟩,
  ⟨none, .store 1 (.t 66) (.t 64), none⟩] (.light 0 (.light 1 (.light 3 (.light 4 (.alt 2 [4] (.light 6 (.alt 5 [] (.alt 7 [] (.light 8 (.alt 9 [] .done .stop)) .stop) .stop)) .stop))))))
 (.ops [⟨(some 67), .addOff 8 (.t 3), none⟩,
  ⟨(some 68), .load1 (.t 67), none⟩,
  ⟨(some 69), .mv (.t 4), none⟩,
  ⟨(some 70), .loadN 8 (.t 5), none⟩,
  ⟨none, .mapSet (.prim .s) (.t 68) (.t 69) (.t 70), none⟩])))))))))
 (.seq (.ops [⟨(some 2), .mv (.t 3), none⟩])
 .ret)))))))))⟩

def F18 : AFun := ⟨141, [.tmp 4], (.seq (.ops [⟨(some 4), .mv (.c (.bool false)), none⟩])
 (.seq (.seq (.ops [⟨(some 5), .mv (.t 0), none⟩,
  ⟨(some 6), .call (.val (.c (.func (.func 21) #[] #[]))) [(.t 5)], none⟩,
  ⟨(some 7), .mv (.t 6), none⟩,
  ⟨(some 8), .mv (.t 1), (some (7, false))⟩,
  ⟨(some 9), .call (.val (.c (.func (.func 21) #[] #[]))) [(.t 8)], (some (7, false))⟩,
  ⟨(some 10), .pick (.t 7) (.c (.bool true)) (.t 9), none⟩])
 (.cond (.t 10) (.seq (.ops [⟨(some 4), .mv (.c (.bool false)), none⟩])
 .ret)
 .skip))
 (.seq (.draw [⟨(some 11), .mv (.t 0), none⟩,
  ⟨(some 12), .nilCheck (.t 11), none⟩,
  ⟨(some 13), .addOff 0 (.t 12), none⟩,
  ⟨(some 14), .load1 (.t 13), none⟩,
  ⟨(some 15), .mv (.t 1), none⟩,
  ⟨(some 16), .nilCheck (.t 15), none⟩,
  ⟨(some 17), .addOff 0 (.t 16), none⟩,
  ⟨(some 18), .load1 (.t 17), none⟩,
  ⟨(some 19), .bin .eql (.t 14) (.t 18), none⟩,
  ⟨(some 20), .mv (.t 19), none⟩,
  ⟨(some 21), .mv (.t 0), (some (20, true))⟩,
  ⟨(some 22), .nilCheck (.t 21), (some (20, true))⟩,
  ⟨(some 23), .addOff 1 (.t 22), (some (20, true))⟩,
  ⟨(some 24), .load1 (.t 23), (some (20, true))⟩,
  ⟨(some 25), .mv (.t 1), (some (20, true))⟩,
  ⟨(some 26), .nilCheck (.t 25), (some (20, true))⟩,
  ⟨(some 27), .addOff 1 (.t 26), (some (20, true))⟩,
  ⟨(some 28), .load1 (.t 27), (some (20, true))⟩,
  ⟨(some 29), .bin .eql (.t 24) (.t 28), (some (20, true))⟩,
  ⟨(some 30), .pick (.t 20) (.t 29) (.c (.bool false)), none⟩,
  ⟨(some 31), .mv (.t 30), none⟩,
  ⟨(some 32), .mv (.t 0), (some (31, true))⟩,
  ⟨(some 33), .nilCheck (.t 32), (some (31, true))⟩,
  ⟨(some 34), .addOff 2 (.t 33), (some (31, true))⟩,
  ⟨(some 35), .load1 (.t 34), (some (31, true))⟩,
  ⟨(some 36), .mv (.t 1), (some (31, true))⟩,
  ⟨(some 37), .nilCheck (.t 36), (some (31, true))⟩,
  ⟨(some 38), .addOff 2 (.t 37), (some (31, true))⟩,
  ⟨(some 39), .load1 (.t 38), (some (31, true))⟩,
  ⟨(some 40), .bin .eql (.t 35) (.t 39), (some (31, true))⟩,
  ⟨(some 41), .pick (.t 31) (.t 40) (.c (.bool false)), none⟩,
  ⟨(some 42), .mv (.t 41), none⟩,
  ⟨(some 43), .mv (.t 0), (some (42, true))⟩,
  ⟨(some 44), .nilCheck (.t 43), (some (42, true))⟩,
  ⟨(some 45), .addOff 6 (.t 44), (some (42, true))⟩,
  ⟨(some 46), .loadN 2 (.t 45), (some (42, true))⟩,
  ⟨(some 47), .mv (.t 1), (some (42, true))⟩,
  ⟨(some 48), .nilCheck (.t 47), (some (42, true))⟩,
  ⟨(some 49), .addOff 6 (.t 48), (some (42, true))⟩,
  ⟨(some 50), .loadN 2 (.t 49), (some (42, true))⟩,
  ⟨(some 51), .eqS false [.i, .i] (.t 46) (.t 50), (some (42, true))⟩,
  ⟨(some 52), .pick (.t 42) (.t 51) (.c (.bool false)), none⟩,
  ⟨(some 53), .mv (.t 52), none⟩,
  ⟨(some 54), .mv (.t 0), (some (53, true))⟩,
  ⟨(some 55), .nilCheck (.t 54), (some (53, true))⟩,
  ⟨(some 56), .addOff 3 (.t 55), (some (53, true))⟩,
  ⟨(some 57), .load1 (.t 56), (some (53, true))⟩,
  ⟨(some 58), .mv (.t 1), (some (53, true))⟩,
  ⟨(some 59), .nilCheck (.t 58), (some (53, true))⟩,
  ⟨(some 60), .addOff 3 (.t 59), (some (53, true))⟩,
  ⟨(some 61), .load1 (.t 60), (some (53, true))⟩,
  ⟨(some 62), .call (.val (.c (.func (.func 46) #[] #[]))) [(.t 57), (.t 61)], (some (53, true))⟩,
  ⟨(some 63), .pick (.t 53) (.t 62) (.c (.bool false)), none⟩,
  ⟨(some 64), .mv (.t 63), none⟩,
  ⟨(some 65), .mv (.t 0), (some (64, true))⟩,
  ⟨(some 66), .nilCheck (.t 65), (some (64, true))⟩,
  ⟨(some 67), .addOff 4 (.t 66), (some (64, true))⟩,
  ⟨(some 68), .load1 (.t 67), (some (64, true))⟩,
  ⟨(some 69), .mv (.t 1), (some (64, true))⟩,
  ⟨(some 70), .nilCheck (.t 69), (some (64, true))⟩,
  ⟨(some 71), .addOff 4 (.t 70), (some (64, true))⟩,
  ⟨(some 72), .load1 (.t 71), (some (64, true))⟩,
  ⟨(some 73), .call (.val (.c (.func (.func 46) #[] #[]))) [(.t 68), (.t 72)], (some (64, true))⟩,
  ⟨(some 74), .pick (.t 64) (.t 73) (.c (.bool false)), none⟩,
  ⟨(some 75), .mv (.t 74), none⟩,
  ⟨(some 76), .mv (.t 0), (some (75, true))⟩,
  ⟨(some 77), .nilCheck (.t 76), (some (75, true))⟩,
  ⟨(some 78), .addOff 9 (.t 77), (some (75, true))⟩,
  ⟨(some 79), .load1 (.t 78), (some (75, true))⟩,
  ⟨(some 80), .mv (.t 1), (some (75, true))⟩,
  ⟨(some 81), .nilCheck (.t 80), (some (75, true))⟩,
  ⟨(some 82), .addOff 9 (.t 81), (some (75, true))⟩,
  ⟨(some 83), .load1 (.t 82), (some (75, true))⟩,
  ⟨(some 84), .call (.val (.c (.func (.func 47) #[] #[]))) [(.t 79), (.t 83)], (some (75, true))⟩,
  ⟨(some 85), .pick (.t 75) (.t 84) (.c (.bool false)), none⟩,
  ⟨(some 86), .mv (.t 85), none⟩,
  ⟨(some 87), .mv (.t 0), (some (86, true))⟩,
  ⟨(some 88), .nilCheck (.t 87), (some (86, true))⟩,
  ⟨(some 89), .addOff 12 (.t 88), (some (86, true))⟩,
  ⟨(some 90), .load1 (.t 89), (some (86, true))⟩,
  ⟨(some 91), .mv (.t 1), (some (86, true))⟩,
  ⟨(some 92), .nilCheck (.t 91), (some (86, true))⟩,
  ⟨(some 93), .addOff 12 (.t 92), (some (86, true))⟩,
  ⟨(some 94), .load1 (.t 93), (some (86, true))⟩,
  ⟨(some 95), .call (.val (.c (.func (.func 46) #[] #[]))) [(.t 90), (.t 94)], (some (86, true))⟩,
  ⟨(some 96), .pick (.t 86) (.t 95) (.c (.bool false)), none⟩,
  ⟨(some 97), .mv (.t 96), none⟩,
  ⟨(some 98), .mv (.t 0), (some (97, true))⟩,
  ⟨(some 99), .nilCheck (.t 98), (some (97, true))⟩,
  ⟨(some 100), .addOff 5 (.t 99), (some (97, true))⟩,
  ⟨(some 101), .load1 (.t 100), (some (97, true))⟩,
  ⟨(some 102), .mv (.t 1), (some (97, true))⟩,
  ⟨(some 103), .nilCheck (.t 102), (some (97, true))⟩,
  ⟨(some 104), .addOff 5 (.t 103), (some (97, true))⟩,
  ⟨(some 105), .load1 (.t 104), (some (97, true))⟩,
  ⟨(some 106), .call (.val (.c (.func (.func 48) #[] #[]))) [(.t 101), (.t 105), (.c (.func (.func 49) #[] #[]))], (some (97, true))⟩,
  ⟨(some 107), .pick (.t 97) (.t 106) (.c (.bool false)), none⟩,
  ⟨(some 108), .mv (.t 107), none⟩,
  ⟨(some 109), .mv (.t 0), (some (108, true))⟩,
  ⟨(some 110), .nilCheck (.t 109), (some (108, true))⟩,
  ⟨(some 111), .addOff 10 (.t 110), (some (108, true))⟩,
  ⟨(some 112), .load1 (.t 111), (some (108, true))⟩,
  ⟨(some 113), .mv (.t 1), (some (108, true))⟩,
  ⟨(some 114), .nilCheck (.t 113), (some (108, true))⟩,
  ⟨(some 115), .addOff 10 (.t 114), (some (108, true))⟩,
  ⟨(some 116), .load1 (.t 115), (some (108, true))⟩,
  ⟨(some 117), .call (.val (.c (.func (.func 51) #[] #[]))) [(.t 112), (.t 116)], (some (108, true))⟩,
  ⟨(some 118), .pick (.t 108) (.t 117) (.c (.bool false)), none⟩,
  ⟨(some 119), .mv (.t 118), none⟩,
  ⟨(some 120), .mv (.t 0), (some (119, true))⟩,
  ⟨(some 121), .nilCheck (.t 120), (some (119, true))⟩,
  ⟨(some 122), .addOff 11 (.t 121), (some (119, true))⟩,
  ⟨(some 123), .load1 (.t 122), (some (119, true))⟩,
  ⟨(some 124), .mv (.t 1), (some (119, true))⟩,
  ⟨(some 125), .nilCheck (.t 124), (some (119, true))⟩,
  ⟨(some 126), .addOff 11 (.t 125), (some (119, true))⟩,
  ⟨(some 127), .load1 (.t 126), (some (119, true))⟩,
  ⟨(some 128), .call (.val (.c (.func (.func 52) #[] #[]))) [(.t 123), (.t 127), (.c (.func (.func 53) #[] #[]))], (some (119, true))⟩,
  ⟨(some 129), .pick (.t 119) (.t 128) (.c (.bool false)), none⟩,
  ⟨(some 130), .mv (.t 129), none⟩,
  ⟨(some 131), .mv (.t 0), (some (130, true))⟩,
  ⟨(some 132), .nilCheck (.t 131), (some (130, true))⟩,
  ⟨(some 133), .addOff 8 (.t 132), (some (130, true))⟩,
  ⟨(some 134), .load1 (.t 133), (some (130, true))⟩,
  ⟨(some 135), .mv (.t 1), (some (130, true))⟩,
  ⟨(some 136), .nilCheck (.t 135), (some (130, true))⟩,
  ⟨(some 137), .addOff 8 (.t 136), (some (130, true))⟩,
  ⟨(some 138), .load1 (.t 137), (some (130, true))⟩,
  ⟨(some 139), .call (.val (.c (.func (.func 54) #[] #[]))) [(.t 134), (.t 138), (.c (.func (.func 55) #[] #[]))], (some (130, true))⟩,
  ⟨(some 140), .pick (.t 130) (.t 139) (.c (.bool false)), none⟩,
  ⟨(some 4), .mv (.t 140), none⟩] (.light 0 (.light 1 (.light 2 (.light 3 (.light 4 (.light 5 (.light 6 (.light 7 (.light 8 (.light 9 (.light 10 (.light 11 (.light 12 (.light 13 (.light 14 (.light 15 (.light 16 (.light 17 (.light 18 (.light 19 (.light 20 (.light 21 (.light 22 (.light 23 (.light 24 (.light 25 (.light 26 (.light 27 (.light 28 (.light 29 (.light 30 (.light 31 (.light 32 (.light 33 (.light 34 (.light 35 (.light 36 (.light 37 (.light 38 (.light 39 (.light 40 (.light 41 (.light 42 (.light 43 (.light 44 (.light 45 (.light 46 (.light 47 (.light 48 (.light 49 (.light 50 (.alt 51 [] (.light 52 (.light 53 (.light 54 (.light 55 (.light 56 (.light 57 (.light 58 (.light 59 (.light 60 (.light 61 (.alt 62 [] (.light 63 (.light 64 (.light 65 (.light 66 (.light 67 (.light 68 (.light 69 (.light 70 (.light 71 (.light 72 (.alt 73 [] (.light 74 (.light 75 (.light 76 (.light 77 (.light 78 (.light 79 (.light 80 (.light 81 (.light 82 (.light 83 (.alt 84 [] (.light 85 (.light 86 (.light 87 (.light 88 (.light 89 (.light 90 (.light 91 (.light 92 (.light 93 (.light 94 (.alt 95 [] (.light 96 (.light 97 (.light 98 (.light 99 (.light 100 (.light 101 (.light 102 (.light 103 (.light 104 (.light 105 (.alt 106 [] (.light 107 (.light 108 (.light 109 (.light 110 (.light 111 (.light 112 (.light 113 (.light 114 (.light 115 (.light 116 (.alt 117 [] (.light 118 (.light 119 (.light 120 (.light 121 (.light 122 (.light 123 (.light 124 (.light 125 (.light 126 (.light 127 (.alt 128 [] (.light 129 (.light 130 .done)) .stop))))))))))) .stop))))))))))) .stop))))))))))) .stop))))))))))) .stop))))))))))) .stop))))))))))) .stop))))))))))) .stop)))))))))))))))))))))))))))))))))))))))))))))))))))))
 .ret)))⟩

def F19 : AFun := ⟨10, [.many 2 2], (.seq (.ops [⟨(some 2), .alloc [(.int .i64 (.ofNat 0)), (.int .i64 (.ofNat 0))], none⟩])
 (.seq (.seq (.ops [⟨(some 3), .mv (.t 0), none⟩,
  ⟨(some 4), .call (.val (.c (.func (.func 21) #[] #[]))) [(.t 3)], none⟩])
 (.cond (.t 4) (.seq (.ops [⟨(some 5), .build [(.int .i64 (.ofNat 0)), (.int .i64 (.ofNat 0))] [], none⟩,
  ⟨none, .store 2 (.t 2) (.t 5), none⟩])
 .ret)
 .skip))
 (.seq (.ops [⟨(some 6), .mv (.t 0), none⟩,
  ⟨(some 7), .nilCheck (.t 6), none⟩,
  ⟨(some 8), .addOff 6 (.t 7), none⟩,
  ⟨(some 9), .loadN 2 (.t 8), none⟩,
  ⟨none, .store 2 (.t 2) (.t 9), none⟩])
 .ret)))⟩

def F20 : AFun := ⟨84, [.tmp 2, .tmp 3], (.seq (.ops [⟨(some 1), .box (.t 0), none⟩,
  ⟨(some 2), .mv (.c (.pointer none)), none⟩,
  ⟨(some 3), .mv (.c (.int .i64 (.ofNat 0))), none⟩])
 (.seq (.seq (.ops [⟨(some 7), .addOff 0 (.t 1), none⟩,
  ⟨(some 8), .load1 (.t 7), none⟩,
  ⟨(some 9), .bin .lss (.t 8) (.c (.int .i64 (.ofNat 1))), none⟩,
  ⟨(some 10), .mv (.t 9), none⟩,
  ⟨(some 11), .addOff 0 (.t 1), (some (10, false))⟩,
  ⟨(some 12), .load1 (.t 11), (some (10, false))⟩,
  ⟨(some 13), .bin .gtr (.t 12) (.c (.int .i64 (.ofNat 16))), (some (10, false))⟩,
  ⟨(some 14), .pick (.t 10) (.c (.bool true)) (.t 13), none⟩,
  ⟨(some 15), .mv (.t 14), none⟩,
  ⟨(some 16), .addOff 1 (.t 1), (some (15, false))⟩,
  ⟨(some 17), .load1 (.t 16), (some (15, false))⟩,
  ⟨(some 18), .bin .lss (.t 17) (.c (.int .i64 (.ofNat 1))), (some (15, false))⟩,
  ⟨(some 19), .pick (.t 15) (.c (.bool true)) (.t 18), none⟩,
  ⟨(some 20), .mv (.t 19), none⟩,
  ⟨(some 21), .addOff 1 (.t 1), (some (20, false))⟩,
  ⟨(some 22), .load1 (.t 21), (some (20, false))⟩,
  ⟨(some 23), .addOff 0 (.t 1), (some (20, false))⟩,
  ⟨(some 24), .load1 (.t 23), (some (20, false))⟩,
  ⟨(some 25), .bin .gtr (.t 22) (.t 24), (some (20, false))⟩,
  ⟨(some 26), .pick (.t 20) (.c (.bool true)) (.t 25), none⟩,
  ⟨(some 27), .mv (.t 26), none⟩,
  ⟨(some 28), .addOff 3 (.t 1), (some (27, false))⟩,
  ⟨(some 29), .loadN 2 (.t 28), (some (27, false))⟩,
  ⟨(some 30), .call (.val (.c (.func (.func 56) #[] #[]))) [(.t 29)], (some (27, false))⟩,
  ⟨(some 31), .un .not (.t 30), (some (27, false))⟩,
  ⟨(some 32), .pick (.t 27) (.c (.bool true)) (.t 31), none⟩,
  ⟨(some 33), .mv (.t 32), none⟩,
  ⟨(some 34), .addOff 3 (.t 1), (some (33, false))⟩,
  ⟨(some 35), .addOff 0 (.t 34), (some (33, false))⟩,
  ⟨(some 36), .load1 (.t 35), (some (33, false))⟩,
  ⟨(some 37), .addOff 3 (.t 1), (some (33, false))⟩,
  ⟨(some 38), .addOff 1 (.t 37), (some (33, false))⟩,
  ⟨(some 39), .load1 (.t 38), (some (33, false))⟩,
  ⟨(some 40), .bin .add (.t 36) (.t 39), (some (33, false))⟩,
  ⟨(some 41), .addOff 0 (.t 1), (some (33, false))⟩,
  ⟨(some 42), .load1 (.t 41), (some (33, false))⟩,
  ⟨(some 43), .bin .gtr (.t 40) (.t 42), (some (33, false))⟩,
  ⟨(some 44), .pick (.t 33) (.c (.bool true)) (.t 43), none⟩])
 (.cond (.t 44) (.seq (.ops [⟨(some 2), .mv (.c (.pointer none)), none⟩,
  ⟨(some 3), .mv (.c (.int .i64 (.ofNat 1))), none⟩])
 .ret)
 .skip))
 (.seq (.ops [⟨(some 45), .addOff 0 (.t 1), none⟩,
  ⟨(some 46), .load1 (.t 45), none⟩,
  ⟨(some 47), .addOff 3 (.t 1), none⟩,
  ⟨(some 48), .loadN 2 (.t 47), none⟩,
  ⟨(some 49), .mkMap, none⟩,
  ⟨(some 50), .mkMap, none⟩,
  ⟨(some 51), .mkMap, none⟩,
  ⟨(some 52), .mkMap, none⟩,
  ⟨(some 53), .mkMap, none⟩,
  ⟨(some 54), .build [(.int .i64 (.ofNat 0)), (.int .i64 (.ofNat 0)), (.int .i64 (.ofNat 0)), (.map none), (.map none), (.slice none 0 0), (.int .i64 (.ofNat 0)), (.int .i64 (.ofNat 0)), (.map none), (.map none), (.slice none 0 0), (.slice none 0 0), (.map none)] [(0, 1, (.t 46)), (1, 1, (.c (.int .i64 (.ofNat 1)))), (2, 1, (.c (.int .i64 (.ofNat 1)))), (6, 2, (.t 48)), (3, 1, (.t 49)), (4, 1, (.t 50)), (8, 1, (.t 51)), (9, 1, (.t 52)), (12, 1, (.t 53))], none⟩,
  ⟨(some 55), .box (.t 54), none⟩,
  ⟨(some 4), .mv (.t 55), none⟩])
 (.seq (.ops [⟨(some 56), .build [(.int .i64 (.ofNat 0)), (.slice none 0 0)] [(0, 1, (.c (.int .i64 (.ofNat 1))))], none⟩,
  ⟨(some 5), .alloc [(.int .i64 (.ofNat 0)), (.slice none 0 0)], none⟩,
  ⟨none, .store 2 (.t 5) (.t 56), none⟩])
 (.seq (.seq (.ops [⟨(some 57), .addOff 0 (.t 1), none⟩,
  ⟨(some 58), .load1 (.t 57), none⟩,
  ⟨(some 59), .mv (.c (.int .i64 (.ofNat 0))), none⟩])
 (.block 0 (.loop [1, 4, 5, 58, 59] (.seq (.ops [⟨(some 60), .bin .lss (.t 59) (.t 58), none⟩])
 (.seq (.cond (.t 60) .skip
 (.exit 0))
 (.seq (.block 1 (.seq (.ops [⟨(some 61), .mv (.t 59), none⟩,
  ⟨(some 6), .mv (.t 61), none⟩])
 (.seq (.ops [⟨(some 62), .mv (.t 4), none⟩,
  ⟨(some 63), .nilCheck (.t 62), none⟩,
  ⟨(some 64), .addOff 3 (.t 63), none⟩,
  ⟨(some 65), .load1 (.t 64), none⟩,
  ⟨(some 66), .mv (.t 6), none⟩,
  ⟨none, .mapSet (.prim .i) (.t 65) (.t 66) (.c (.bool true)), none⟩])
 (.seq (.ops [⟨(some 67), .mv (.t 6), none⟩,
  ⟨(some 68), .addOff 1 (.t 1), none⟩,
  ⟨(some 69), .load1 (.t 68), none⟩,
  ⟨(some 70), .bin .lss (.t 67) (.t 69), none⟩])
 (.cond (.t 70) (.ops [⟨(some 71), .addOff 1 (.t 5), none⟩,
  ⟨(some 72), .load1 (.t 71), none⟩,
  ⟨(some 73), .mv (.t 6), none⟩,
  ⟨(some 74), .mkSlice 1 [(.int .i64 (.ofNat 0))] [(0, 1, (.t 73))], none⟩,
  ⟨(some 75), .append 1 8 (.t 72) (.t 74), none⟩,
  ⟨(some 76), .addOff 1 (.t 5), none⟩,
  ⟨none, .store 1 (.t 76) (.t 75), none⟩])
 .skip)))))
 (.ops [⟨(some 77), .bin .add (.t 59) (.c (.int .i64 (.ofNat 1))), none⟩,
  ⟨(some 59), .mv (.t 77), none⟩])))))))
 (.seq (.ops [⟨(some 78), .mv (.t 4), none⟩,
  ⟨(some 79), .loadN 2 (.t 5), none⟩,
  ⟨(some 80), .mkSlice 1 [(.int .i64 (.ofNat 0)), (.slice none 0 0)] [(0, 2, (.t 79))], none⟩,
  ⟨(some 81), .nilCheck (.t 78), none⟩,
  ⟨(some 82), .addOff 5 (.t 81), none⟩,
  ⟨none, .store 1 (.t 82) (.t 80), none⟩])
 (.seq (.ops [⟨(some 83), .mv (.t 4), none⟩,
  ⟨(some 2), .mv (.t 83), none⟩,
  ⟨(some 3), .mv (.c (.int .i64 (.ofNat 0))), none⟩])
 .ret)))))))⟩

def F21 : AFun := ⟨12, [.tmp 2], (.seq (.ops [⟨(some 2), .mv (.c (.bool false)), none⟩])
 (.seq (.ops [⟨(some 3), .mv (.t 0), none⟩,
  ⟨(some 4), .eqP .ptr false (.t 3) (.c (.pointer none)), none⟩,
  ⟨(some 5), .mv (.t 4), none⟩,
  ⟨(some 6), .mv (.t 0), (some (5, false))⟩,
  ⟨(some 7), .nilCheck (.t 6), (some (5, false))⟩,
  ⟨(some 8), .addOff 0 (.t 7), (some (5, false))⟩,
  ⟨(some 9), .load1 (.t 8), (some (5, false))⟩,
  ⟨(some 10), .bin .eql (.t 9) (.c (.int .i64 (.ofNat 0))), (some (5, false))⟩,
  ⟨(some 11), .pick (.t 5) (.c (.bool true)) (.t 10), none⟩,
  ⟨(some 2), .mv (.t 11), none⟩])
 .ret))⟩

def F29 : AFun := ⟨38, [.tmp 4], (.seq (.ops [⟨(some 2), .box (.t 0), none⟩,
  ⟨(some 3), .box (.t 1), none⟩,
  ⟨(some 4), .mv (.c (.bool false)), none⟩])
 (.seq (.ops [⟨(some 5), .addOff 0 (.t 2), none⟩,
  ⟨(some 6), .load1 (.t 5), none⟩,
  ⟨(some 7), .addOff 0 (.t 3), none⟩,
  ⟨(some 8), .load1 (.t 7), none⟩,
  ⟨(some 9), .bin .eql (.t 6) (.t 8), none⟩,
  ⟨(some 10), .mv (.t 9), none⟩,
  ⟨(some 11), .addOff 1 (.t 2), (some (10, true))⟩,
  ⟨(some 12), .load1 (.t 11), (some (10, true))⟩,
  ⟨(some 13), .addOff 1 (.t 3), (some (10, true))⟩,
  ⟨(some 14), .load1 (.t 13), (some (10, true))⟩,
  ⟨(some 15), .bin .eql (.t 12) (.t 14), (some (10, true))⟩,
  ⟨(some 16), .pick (.t 10) (.t 15) (.c (.bool false)), none⟩,
  ⟨(some 17), .mv (.t 16), none⟩,
  ⟨(some 18), .addOff 2 (.t 2), (some (17, true))⟩,
  ⟨(some 19), .load1 (.t 18), (some (17, true))⟩,
  ⟨(some 20), .addOff 2 (.t 3), (some (17, true))⟩,
  ⟨(some 21), .load1 (.t 20), (some (17, true))⟩,
  ⟨(some 22), .bin .eql (.t 19) (.t 21), (some (17, true))⟩,
  ⟨(some 23), .pick (.t 17) (.t 22) (.c (.bool false)), none⟩,
  ⟨(some 24), .mv (.t 23), none⟩,
  ⟨(some 25), .addOff 3 (.t 2), (some (24, true))⟩,
  ⟨(some 26), .loadN 2 (.t 25), (some (24, true))⟩,
  ⟨(some 27), .addOff 3 (.t 3), (some (24, true))⟩,
  ⟨(some 28), .loadN 2 (.t 27), (some (24, true))⟩,
  ⟨(some 29), .eqS false [.i, .i] (.t 26) (.t 28), (some (24, true))⟩,
  ⟨(some 30), .pick (.t 24) (.t 29) (.c (.bool false)), none⟩,
  ⟨(some 31), .mv (.t 30), none⟩,
  ⟨(some 32), .addOff 5 (.t 2), (some (31, true))⟩,
  ⟨(some 33), .load1 (.t 32), (some (31, true))⟩,
  ⟨(some 34), .addOff 5 (.t 3), (some (31, true))⟩,
  ⟨(some 35), .load1 (.t 34), (some (31, true))⟩,
  ⟨(some 36), .call (.val (.c (.func (.func 50) #[] #[]))) [(.t 33), (.t 35)], (some (31, true))⟩,
  ⟨(some 37), .pick (.t 31) (.t 36) (.c (.bool false)), none⟩,
  ⟨(some 4), .mv (.t 37), none⟩])
 .ret))⟩

def F46 : AFun := ⟨34, [.tmp 4], (.seq (.ops [⟨(some 4), .mv (.c (.bool false)), none⟩])
 (.seq (.seq (.ops [⟨(some 9), .mv (.t 0), none⟩,
  ⟨(some 10), .lenM (.t 9), none⟩,
  ⟨(some 11), .mv (.t 1), none⟩,
  ⟨(some 12), .lenM (.t 11), none⟩,
  ⟨(some 13), .bin .neq (.t 10) (.t 12), none⟩])
 (.cond (.t 13) (.seq (.ops [⟨(some 4), .mv (.c (.bool false)), none⟩])
 .ret)
 .skip))
 (.seq (.seq (.ops [⟨(some 14), .mv (.t 0), none⟩,
  ⟨(some 15), .range (.t 14), none⟩])
 (.block 0 (.loop [1, 15] (.seq (.ops [⟨(some 16), .next (.t 15), none⟩,
  ⟨(some 17), .extract 0 (.t 16), none⟩])
 (.seq (.cond (.t 17) .skip
 (.exit 0))
 (.block 1 (.seq (.ops [⟨(some 18), .entry (.t 15), none⟩,
  ⟨(some 19), .extract 0 (.t 18), none⟩,
  ⟨(some 20), .extract 1 (.t 18), none⟩,
  ⟨(some 5), .mv (.t 19), none⟩,
  ⟨(some 6), .mv (.t 20), none⟩])
 (.seq (.ops [⟨(some 22), .mv (.t 1), none⟩,
  ⟨(some 23), .mv (.t 5), none⟩,
  ⟨(some 24), .lookup (.bool false) true (.prim .i) (.t 22) (.t 23), none⟩,
  ⟨(some 21), .mv (.t 24), none⟩,
  ⟨(some 25), .extract 0 (.t 21), none⟩,
  ⟨(some 26), .extract 1 (.t 21), none⟩,
  ⟨(some 7), .mv (.t 25), none⟩,
  ⟨(some 8), .mv (.t 26), none⟩])
 (.seq (.ops [⟨(some 27), .mv (.t 8), none⟩,
  ⟨(some 28), .un .not (.t 27), none⟩,
  ⟨(some 29), .mv (.t 28), none⟩,
  ⟨(some 30), .mv (.t 6), (some (29, false))⟩,
  ⟨(some 31), .mv (.t 7), (some (29, false))⟩,
  ⟨(some 32), .eqB true (.t 30) (.t 31), (some (29, false))⟩,
  ⟨(some 33), .pick (.t 29) (.c (.bool true)) (.t 32), none⟩])
 (.cond (.t 33) (.seq (.ops [⟨(some 4), .mv (.c (.bool false)), none⟩])
 .ret)
 .skip))))))))))
 (.seq (.ops [⟨(some 4), .mv (.c (.bool true)), none⟩])
 .ret))))⟩

def F47 : AFun := ⟨34, [.tmp 4], (.seq (.ops [⟨(some 4), .mv (.c (.bool false)), none⟩])
 (.seq (.seq (.ops [⟨(some 9), .mv (.t 0), none⟩,
  ⟨(some 10), .lenM (.t 9), none⟩,
  ⟨(some 11), .mv (.t 1), none⟩,
  ⟨(some 12), .lenM (.t 11), none⟩,
  ⟨(some 13), .bin .neq (.t 10) (.t 12), none⟩])
 (.cond (.t 13) (.seq (.ops [⟨(some 4), .mv (.c (.bool false)), none⟩])
 .ret)
 .skip))
 (.seq (.seq (.ops [⟨(some 14), .mv (.t 0), none⟩,
  ⟨(some 15), .range (.t 14), none⟩])
 (.block 0 (.loop [1, 15] (.seq (.ops [⟨(some 16), .next (.t 15), none⟩,
  ⟨(some 17), .extract 0 (.t 16), none⟩])
 (.seq (.cond (.t 17) .skip
 (.exit 0))
 (.block 1 (.seq (.ops [⟨(some 18), .entry (.t 15), none⟩,
  ⟨(some 19), .extract 0 (.t 18), none⟩,
  ⟨(some 20), .extract 1 (.t 18), none⟩,
  ⟨(some 5), .mv (.t 19), none⟩,
  ⟨(some 6), .mv (.t 20), none⟩])
 (.seq (.ops [⟨(some 22), .mv (.t 1), none⟩,
  ⟨(some 23), .mv (.t 5), none⟩,
  ⟨(some 24), .lookup (.string ⟨#[]⟩) true (.prim .i) (.t 22) (.t 23), none⟩,
  ⟨(some 21), .mv (.t 24), none⟩,
  ⟨(some 25), .extract 0 (.t 21), none⟩,
  ⟨(some 26), .extract 1 (.t 21), none⟩,
  ⟨(some 7), .mv (.t 25), none⟩,
  ⟨(some 8), .mv (.t 26), none⟩])
 (.seq (.ops [⟨(some 27), .mv (.t 8), none⟩,
  ⟨(some 28), .un .not (.t 27), none⟩,
  ⟨(some 29), .mv (.t 28), none⟩,
  ⟨(some 30), .mv (.t 6), (some (29, false))⟩,
  ⟨(some 31), .mv (.t 7), (some (29, false))⟩,
  ⟨(some 32), .bin .neq (.t 30) (.t 31), (some (29, false))⟩,
  ⟨(some 33), .pick (.t 29) (.c (.bool true)) (.t 32), none⟩])
 (.cond (.t 33) (.seq (.ops [⟨(some 4), .mv (.c (.bool false)), none⟩])
 .ret)
 .skip))))))))))
 (.seq (.ops [⟨(some 4), .mv (.c (.bool true)), none⟩])
 .ret))))⟩

def F48 : AFun := ⟨32, [.tmp 6], (.seq (.ops [⟨(some 6), .mv (.c (.bool false)), none⟩])
 (.seq (.seq (.ops [⟨(some 10), .mv (.t 0), none⟩,
  ⟨(some 11), .lenS (.t 10), none⟩,
  ⟨(some 12), .mv (.t 1), none⟩,
  ⟨(some 13), .lenS (.t 12), none⟩,
  ⟨(some 14), .bin .neq (.t 11) (.t 13), none⟩])
 (.cond (.t 14) (.seq (.ops [⟨(some 6), .mv (.c (.bool false)), none⟩])
 .ret)
 .skip))
 (.seq (.seq (.ops [⟨(some 15), .mv (.t 0), none⟩,
  ⟨(some 16), .lenS (.t 15), none⟩,
  ⟨(some 17), .mv (.c (.int .i64 (.ofNat 0))), none⟩])
 (.block 0 (.loop [1, 2, 15, 16, 17] (.seq (.ops [⟨(some 18), .bin .lss (.t 17) (.t 16), none⟩])
 (.seq (.cond (.t 18) .skip
 (.exit 0))
 (.seq (.block 1 (.seq (.ops [⟨(some 19), .mv (.t 17), none⟩,
  ⟨(some 20), .idxAddrSl 2 (.t 15) (.t 17), none⟩,
  ⟨(some 21), .loadN 2 (.t 20), none⟩,
  ⟨(some 8), .alloc [(.int .i64 (.ofNat 0)), (.slice none 0 0)], none⟩,
  ⟨(some 7), .mv (.t 19), none⟩,
  ⟨none, .store 2 (.t 8) (.t 21), none⟩])
 (.seq (.ops [⟨(some 22), .mv (.t 1), none⟩,
  ⟨(some 23), .mv (.t 7), none⟩,
  ⟨(some 24), .idxAddrSl 2 (.t 22) (.t 23), none⟩,
  ⟨(some 25), .loadN 2 (.t 24), none⟩,
  ⟨(some 9), .alloc [(.int .i64 (.ofNat 0)), (.slice none 0 0)], none⟩,
  ⟨none, .store 2 (.t 9) (.t 25), none⟩])
 (.seq (.ops [⟨(some 26), .mv (.t 2), none⟩,
  ⟨(some 27), .loadN 2 (.t 8), none⟩,
  ⟨(some 28), .loadN 2 (.t 9), none⟩,
  ⟨(some 29), .call (.val (.t 26)) [(.t 27), (.t 28)], none⟩,
  ⟨(some 30), .un .not (.t 29), none⟩])
 (.cond (.t 30) (.seq (.ops [⟨(some 6), .mv (.c (.bool false)), none⟩])
 .ret)
 .skip)))))
 (.ops [⟨(some 31), .bin .add (.t 17) (.c (.int .i64 (.ofNat 1))), none⟩,
  ⟨(some 17), .mv (.t 31), none⟩])))))))
 (.seq (.ops [⟨(some 6), .mv (.c (.bool true)), none⟩])
 .ret))))⟩

def F49 : AFun := ⟨17, [.tmp 4], (.seq (.ops [⟨(some 2), .box (.t 0), none⟩,
  ⟨(some 3), .box (.t 1), none⟩,
  ⟨(some 4), .mv (.c (.bool false)), none⟩])
 (.seq (.ops [⟨(some 5), .addOff 0 (.t 2), none⟩,
  ⟨(some 6), .load1 (.t 5), none⟩,
  ⟨(some 7), .addOff 0 (.t 3), none⟩,
  ⟨(some 8), .load1 (.t 7), none⟩,
  ⟨(some 9), .bin .eql (.t 6) (.t 8), none⟩,
  ⟨(some 10), .mv (.t 9), none⟩,
  ⟨(some 11), .addOff 1 (.t 2), (some (10, true))⟩,
  ⟨(some 12), .load1 (.t 11), (some (10, true))⟩,
  ⟨(some 13), .addOff 1 (.t 3), (some (10, true))⟩,
  ⟨(some 14), .load1 (.t 13), (some (10, true))⟩,
  ⟨(some 15), .call (.val (.c (.func (.func 50) #[] #[]))) [(.t 12), (.t 14)], (some (10, true))⟩,
  ⟨(some 16), .pick (.t 10) (.t 15) (.c (.bool false)), none⟩,
  ⟨(some 4), .mv (.t 16), none⟩])
 .ret))⟩

def F50 : AFun := ⟨26, [.tmp 4], (.seq (.ops [⟨(some 4), .mv (.c (.bool false)), none⟩])
 (.seq (.seq (.ops [⟨(some 6), .mv (.t 0), none⟩,
  ⟨(some 7), .lenS (.t 6), none⟩,
  ⟨(some 8), .mv (.t 1), none⟩,
  ⟨(some 9), .lenS (.t 8), none⟩,
  ⟨(some 10), .bin .neq (.t 7) (.t 9), none⟩])
 (.cond (.t 10) (.seq (.ops [⟨(some 4), .mv (.c (.bool false)), none⟩])
 .ret)
 .skip))
 (.seq (.seq (.ops [⟨(some 11), .mv (.t 0), none⟩,
  ⟨(some 12), .lenS (.t 11), none⟩,
  ⟨(some 13), .mv (.c (.int .i64 (.ofNat 0))), none⟩])
 (.block 0 (.loop [0, 1, 12, 13] (.seq (.ops [⟨(some 14), .bin .lss (.t 13) (.t 12), none⟩])
 (.seq (.cond (.t 14) .skip
 (.exit 0))
 (.seq (.block 1 (.seq (.ops [⟨(some 15), .mv (.t 13), none⟩,
  ⟨(some 5), .mv (.t 15), none⟩])
 (.seq (.draw [⟨(some 16), .mv (.t 0), none⟩,
  ⟨(some 17), .mv (.t 5), none⟩,
  ⟨(some 18), .idxAddrSl 1 (.t 16) (.t 17), none⟩,
  ⟨(some 19), .load1 (.t 18), none⟩,
  ⟨(some 20), .mv (.t 1), none⟩,
  ⟨(some 21), .mv (.t 5), none⟩,
  ⟨(some 22), .idxAddrSl 1 (.t 20) (.t 21), none⟩,
  ⟨(some 23), .load1 (.t 22), none⟩,
  ⟨(some 24), .bin .neq (.t 19) (.t 23), none⟩] (.light 0 (.light 1 (.light 2 (.light 3 (.light 4 (.light 5 (.light 6 (.light 7 (.light 8 .done))))))))))
 (.cond (.t 24) (.seq (.ops [⟨(some 4), .mv (.c (.bool false)), none⟩])
 .ret)
 .skip))))
 (.ops [⟨(some 25), .bin .add (.t 13) (.c (.int .i64 (.ofNat 1))), none⟩,
  ⟨(some 13), .mv (.t 25), none⟩])))))))
 (.seq (.ops [⟨(some 4), .mv (.c (.bool true)), none⟩])
 .ret))))⟩

def F51 : AFun := ⟨26, [.tmp 4], (.seq (.ops [⟨(some 4), .mv (.c (.bool false)), none⟩])
 (.seq (.seq (.ops [⟨(some 6), .mv (.t 0), none⟩,
  ⟨(some 7), .lenS (.t 6), none⟩,
  ⟨(some 8), .mv (.t 1), none⟩,
  ⟨(some 9), .lenS (.t 8), none⟩,
  ⟨(some 10), .bin .neq (.t 7) (.t 9), none⟩])
 (.cond (.t 10) (.seq (.ops [⟨(some 4), .mv (.c (.bool false)), none⟩])
 .ret)
 .skip))
 (.seq (.seq (.ops [⟨(some 11), .mv (.t 0), none⟩,
  ⟨(some 12), .lenS (.t 11), none⟩,
  ⟨(some 13), .mv (.c (.int .i64 (.ofNat 0))), none⟩])
 (.block 0 (.loop [0, 1, 12, 13] (.seq (.ops [⟨(some 14), .bin .lss (.t 13) (.t 12), none⟩])
 (.seq (.cond (.t 14) .skip
 (.exit 0))
 (.seq (.block 1 (.seq (.ops [⟨(some 15), .mv (.t 13), none⟩,
  ⟨(some 5), .mv (.t 15), none⟩])
 (.seq (.draw [⟨(some 16), .mv (.t 0), none⟩,
  ⟨(some 17), .mv (.t 5), none⟩,
  ⟨(some 18), .idxAddrSl 3 (.t 16) (.t 17), none⟩,
  ⟨(some 19), .loadN 3 (.t 18), none⟩,
  ⟨(some 20), .mv (.t 1), none⟩,
  ⟨(some 21), .mv (.t 5), none⟩,
  ⟨(some 22), .idxAddrSl 3 (.t 20) (.t 21), none⟩,
  ⟨(some 23), .loadN 3 (.t 22), none⟩,
  ⟨(some 24), .eqS true [.i, .i, .i] (.t 19) (.t 23), none⟩] (.light 0 (.light 1 (.light 2 (.light 3 (.light 4 (.light 5 (.light 6 (.light 7 (.light 8 .done))))))))))
 (.cond (.t 24) (.seq (.ops [⟨(some 4), .mv (.c (.bool false)), none⟩])
 .ret)
 .skip))))
 (.ops [⟨(some 25), .bin .add (.t 13) (.c (.int .i64 (.ofNat 1))), none⟩,
  ⟨(some 13), .mv (.t 25), none⟩])))))))
 (.seq (.ops [⟨(some 4), .mv (.c (.bool true)), none⟩])
 .ret))))⟩

def F52 : AFun := ⟨32, [.tmp 6], (.seq (.ops [⟨(some 6), .mv (.c (.bool false)), none⟩])
 (.seq (.seq (.ops [⟨(some 10), .mv (.t 0), none⟩,
  ⟨(some 11), .lenS (.t 10), none⟩,
  ⟨(some 12), .mv (.t 1), none⟩,
  ⟨(some 13), .lenS (.t 12), none⟩,
  ⟨(some 14), .bin .neq (.t 11) (.t 13), none⟩])
 (.cond (.t 14) (.seq (.ops [⟨(some 6), .mv (.c (.bool false)), none⟩])
 .ret)
 .skip))
 (.seq (.seq (.ops [⟨(some 15), .mv (.t 0), none⟩,
  ⟨(some 16), .lenS (.t 15), none⟩,
  ⟨(some 17), .mv (.c (.int .i64 (.ofNat 0))), none⟩])
 (.block 0 (.loop [1, 2, 15, 16, 17] (.seq (.ops [⟨(some 18), .bin .lss (.t 17) (.t 16), none⟩])
 (.seq (.cond (.t 18) .skip
 (.exit 0))
 (.seq (.block 1 (.seq (.ops [⟨(some 19), .mv (.t 17), none⟩,
  ⟨(some 20), .idxAddrSl 5 (.t 15) (.t 17), none⟩,
  ⟨(some 21), .loadN 5 (.t 20), none⟩,
  ⟨(some 8), .alloc [(.int .i64 (.ofNat 0)), (.int .i64 (.ofNat 0)), (.int .i64 (.ofNat 0)), (.int .i64 (.ofNat 0)), (.slice none 0 0)], none⟩,
  ⟨(some 7), .mv (.t 19), none⟩,
  ⟨none, .store 5 (.t 8) (.t 21), none⟩])
 (.seq (.ops [⟨(some 22), .mv (.t 1), none⟩,
  ⟨(some 23), .mv (.t 7), none⟩,
  ⟨(some 24), .idxAddrSl 5 (.t 22) (.t 23), none⟩,
  ⟨(some 25), .loadN 5 (.t 24), none⟩,
  ⟨(some 9), .alloc [(.int .i64 (.ofNat 0)), (.int .i64 (.ofNat 0)), (.int .i64 (.ofNat 0)), (.int .i64 (.ofNat 0)), (.slice none 0 0)], none⟩,
  ⟨none, .store 5 (.t 9) (.t 25), none⟩])
 (.seq (.ops [⟨(some 26), .mv (.t 2), none⟩,
  ⟨(some 27), .loadN 5 (.t 8), none⟩,
  ⟨(some 28), .loadN 5 (.t 9), none⟩,
  ⟨(some 29), .call (.val (.t 26)) [(.t 27), (.t 28)], none⟩,
  ⟨(some 30), .un .not (.t 29), none⟩])
 (.cond (.t 30) (.seq (.ops [⟨(some 6), .mv (.c (.bool false)), none⟩])
 .ret)
 .skip)))))
 (.ops [⟨(some 31), .bin .add (.t 17) (.c (.int .i64 (.ofNat 1))), none⟩,
  ⟨(some 17), .mv (.t 31), none⟩])))))))
 (.seq (.ops [⟨(some 6), .mv (.c (.bool true)), none⟩])
 .ret))))⟩

def F54 : AFun := ⟨38, [.tmp 6], (.seq (.ops [⟨(some 6), .mv (.c (.bool false)), none⟩])
 (.seq (.seq (.ops [⟨(some 11), .mv (.t 0), none⟩,
  ⟨(some 12), .lenM (.t 11), none⟩,
  ⟨(some 13), .mv (.t 1), none⟩,
  ⟨(some 14), .lenM (.t 13), none⟩,
  ⟨(some 15), .bin .neq (.t 12) (.t 14), none⟩])
 (.cond (.t 15) (.seq (.ops [⟨(some 6), .mv (.c (.bool false)), none⟩])
 .ret)
 .skip))
 (.seq (.seq (.ops [⟨(some 16), .mv (.t 0), none⟩,
  ⟨(some 17), .range (.t 16), none⟩])
 (.block 0 (.loop [1, 2, 17] (.seq (.ops [⟨(some 18), .next (.t 17), none⟩,
  ⟨(some 19), .extract 0 (.t 18), none⟩])
 (.seq (.cond (.t 19) .skip
 (.exit 0))
 (.block 1 (.seq (.ops [⟨(some 20), .entry (.t 17), none⟩,
  ⟨(some 21), .extract 0 (.t 20), none⟩,
  ⟨(some 22), .extract 1 (.t 20), none⟩,
  ⟨(some 8), .alloc [(.int .i64 (.ofNat 0)), (.int .i64 (.ofNat 0)), (.int .u32 (.ofNat 0)), (.int .i64 (.ofNat 0)), (.int .i64 (.ofNat 0)), (.slice none 0 0), (.bool false), (.slice none 0 0)], none⟩,
  ⟨(some 7), .mv (.t 21), none⟩,
  ⟨none, .store 8 (.t 8) (.t 22), none⟩])
 (.seq (.ops [⟨(some 24), .mv (.t 1), none⟩,
  ⟨(some 25), .mv (.t 7), none⟩,
  ⟨(some 26), .lookup (.agg #[(.int .i64 (.ofNat 0)), (.int .i64 (.ofNat 0)), (.int .u32 (.ofNat 0)), (.int .i64 (.ofNat 0)), (.int .i64 (.ofNat 0)), (.slice none 0 0), (.bool false), (.slice none 0 0)]) true (.prim .s) (.t 24) (.t 25), none⟩,
  ⟨(some 23), .mv (.t 26), none⟩,
  ⟨(some 27), .extract 0 (.t 23), none⟩,
  ⟨(some 28), .extract 1 (.t 23), none⟩,
  ⟨(some 9), .alloc [(.int .i64 (.ofNat 0)), (.int .i64 (.ofNat 0)), (.int .u32 (.ofNat 0)), (.int .i64 (.ofNat 0)), (.int .i64 (.ofNat 0)), (.slice none 0 0), (.bool false), (.slice none 0 0)], none⟩,
  ⟨none, .store 8 (.t 9) (.t 27), none⟩,
  ⟨(some 10), .mv (.t 28), none⟩])
 (.seq (.ops [⟨(some 29), .mv (.t 10), none⟩,
  ⟨(some 30), .un .not (.t 29), none⟩,
  ⟨(some 31), .mv (.t 30), none⟩,
  ⟨(some 32), .mv (.t 2), (some (31, false))⟩,
  ⟨(some 33), .loadN 8 (.t 8), (some (31, false))⟩,
  ⟨(some 34), .loadN 8 (.t 9), (some (31, false))⟩,
  ⟨(some 35), .call (.val (.t 32)) [(.t 33), (.t 34)], (some (31, false))⟩,
  ⟨(some 36), .un .not (.t 35), (some (31, false))⟩,
  ⟨(some 37), .pick (.t 31) (.c (.bool true)) (.t 36), none⟩])
 (.cond (.t 37) (.seq (.ops [⟨(some 6), .mv (.c (.bool false)), none⟩])
 .ret)
 .skip))))))))))
 (.seq (.ops [⟨(some 6), .mv (.c (.bool true)), none⟩])
 .ret))))⟩

def F56 : AFun := ⟨24, [.tmp 2], (.seq (.ops [⟨(some 1), .box (.t 0), none⟩,
  ⟨(some 2), .mv (.c (.bool false)), none⟩])
 (.seq (.ops [⟨(some 3), .addOff 0 (.t 1), none⟩,
  ⟨(some 4), .load1 (.t 3), none⟩,
  ⟨(some 5), .bin .geq (.t 4) (.c (.int .i64 (.ofNat 1))), none⟩,
  ⟨(some 6), .mv (.t 5), none⟩,
  ⟨(some 7), .addOff 1 (.t 1), (some (6, true))⟩,
  ⟨(some 8), .load1 (.t 7), (some (6, true))⟩,
  ⟨(some 9), .bin .geq (.t 8) (.c (.int .i64 (.ofNat 0))), (some (6, true))⟩,
  ⟨(some 10), .pick (.t 6) (.t 9) (.c (.bool false)), none⟩,
  ⟨(some 11), .mv (.t 10), none⟩,
  ⟨(some 12), .addOff 0 (.t 1), (some (11, true))⟩,
  ⟨(some 13), .load1 (.t 12), (some (11, true))⟩,
  ⟨(some 14), .bin .leq (.t 13) (.c (.int .i64 (.ofNat 255))), (some (11, true))⟩,
  ⟨(some 15), .pick (.t 11) (.t 14) (.c (.bool false)), none⟩,
  ⟨(some 16), .mv (.t 15), none⟩,
  ⟨(some 17), .addOff 1 (.t 1), (some (16, true))⟩,
  ⟨(some 18), .load1 (.t 17), (some (16, true))⟩,
  ⟨(some 19), .addOff 0 (.t 1), (some (16, true))⟩,
  ⟨(some 20), .load1 (.t 19), (some (16, true))⟩,
  ⟨(some 21), .bin .sub (.c (.int .i64 (.ofNat 255))) (.t 20), (some (16, true))⟩,
  ⟨(some 22), .bin .leq (.t 18) (.t 21), (some (16, true))⟩,
  ⟨(some 23), .pick (.t 16) (.t 22) (.c (.bool false)), none⟩,
  ⟨(some 2), .mv (.t 23), none⟩])
 .ret))⟩

end Go.Proofs.YtbnfbpiahcjhkaaGreat
